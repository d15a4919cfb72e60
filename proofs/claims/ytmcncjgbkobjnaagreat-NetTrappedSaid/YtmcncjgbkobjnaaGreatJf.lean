import Derived.Test.YtmcncjgbkobjnaaGreatJe
set_option linter.unusedSimpArgs false
set_option linter.unusedVariables false
noncomputable section
open Go.Proofs.Tryz
namespace Go.Proofs.YtmcncjgbkobjnaaGreat.Am
open Go.RowKit Go.Proofs.YtmcncjgbkobjnaaGreat.P
set_option maxRecDepth 100000
set_option maxHeartbeats 4000000
theorem D6:bP prog 197 uc:=bP.gr (mode:=(.fresh 3 1)) tok Qq mixed func197 (by kernel_rfl) (fun _=>by kernel_rfl) (fun x r h=>Vz x.1 x.2 r h)
def nH:=mkW 3 (eI .i64) (jO (pE (eI .i64)) (eU (aI .i64))) (fun (l:(List Int)) (x:(List Int)×Int)=>fl l x.1 x.2) (fun r:Int =>.clean (.int .i64 r))
theorem Ep (pre post:List D) (p0:(List Int)) (p1:(List Int)) (p2:Int):nH (some (.buf 0 0 1 pre.length p0.length,⟨0,3,pre++(ab (eI .i64) p0++post),false,true,false⟩)) [.sl false false p1.length (ab (eI .i64) p1),.int .i64 p2]=(fl p0 p1 p2).map fun r=>(.clean (.int .i64 r.2),some ⟨0,3,pre++(ab (eI .i64) r.1++post),false,true,false⟩):=Yn _ _ _ _ _ pre post p0 (p1,p2)
theorem DG (pre post:List D) (p0:(List Int)) (p1:(List Int)) (p2:Int) (r:(List Int)×(Int)) (hh:fl p0 p1 p2=some r):aW .clean tab a7 FU Tryz.f216 (some (.buf 0 0 1 pre.length p0.length,⟨0,3,pre++(ab (eI .i64) p0++post),false,true,false⟩)) [.sl false false p1.length (ab (eI .i64) p1),.int .i64 p2]=some (.clean (.int .i64 r.2),some ⟨0,3,pre++(ab (eI .i64) r.1++post),false,true,false⟩):=by
 apply E8 rfl ntmps216 results216
 unfold fl at hh
 obtain⟨rw,hrw,hh⟩:=ah hh
 split at hh
 rotate_left
 ·cases hh
 cases hh
 rename_i hlen
 replace hh:=hrw
 unfold nP at hh
 try simp only[w,seval,-Int.reduceToNat]
 obtain⟨o9,ho9,hh⟩:=ah hh
 refine ay (fun s t H e=>match s with|(s7a,s14a,l0a)=>t 0=.buf 0 0 1 pre.length (l0a).length∧t 1=.sl false false p1.length (ab (eI .i64) p1)∧t 2=.int .i64 p2∧t 7=.int .i64 s7a∧t 13=.int .i64 ((p0).length:Int)∧t 14=.int .i64 s14a∧H 0=some ⟨0,3,pre++(ab (eI .i64) l0a++post),false,true,false⟩) (fun o x t H e=>match o with|(s7ax,l0ax)=>x=.exit 0∧t 0=.buf 0 0 1 pre.length (l0ax).length∧t 1=.sl false false p1.length (ab (eI .i64) p1)∧t 2=.int .i64 p2∧t 7=.int .i64 s7ax∧H 0=some ⟨0,3,pre++(ab (eI .i64) l0ax++post),false,true,false⟩) ho9 ?_ ?_ ?_
 ·and_intros<;>first|rfl|(simp only[w,seval,-Int.reduceToNat]<;>rfl)
 ·rintro⟨s7a,s14a,l0a⟩ t H e Za c hh
  simp only[jP]at hh
  try simp only[w,seval,-Int.reduceToNat,Za]
  apply sp al hh<;>intro _ hh
  ·obtain⟨x11,hx11,hh⟩:=ah hh
   have ax11:=M3 (pre:=pre) (post:=post) (eI .i64) hx11
   simp only[bN]at ax11
   try simp only[w,seval,-Int.reduceToNat,Za,ax11]
   obtain⟨o12,ho12,hh⟩:=ah hh
   refine jN 0 (fun s t H e=>match s with|s9j3=>t 0=.buf 0 0 1 pre.length (l0a).length∧t 1=.sl false false p1.length (ab (eI .i64) p1)∧t 2=.int .i64 p2∧t 8=.int .i64 s14a∧t 9=.int .i64 s9j3∧t 13=.int .i64 ((p0).length:Int)∧t 14=.int .i64 s14a∧H 0=some ⟨0,3,pre++(ab (eI .i64) l0a++post),false,true,false⟩) (fun s=>s=o12) ?_ ?_
   ·rintro s9j3 t H e Zj3 rfl
    try dsimp only at hh
    have ax11:=M3 (pre:=pre) (post:=post) (eI .i64) hx11
    simp only[bN]at ax11
    have p13:=OL (pre:=pre) (post:=post) (eI .i64) (y':=gn .and .i64 s9j3 1048575) hx11
    simp only[bN]at p13
    have up13:=p13
    simp only[putCells,List.length_cons,List.length_nil,agF]at up13
    obtain⟨x14,hx14,hh⟩:=ah hh
    have q15:=lY hx14
    cases hh
    try simp only[w,seval,-Int.reduceToNat,Zj3,ax11,up13,q15]
    apply gL
    and_intros<;>first|rfl|(simp only[w,seval,-Int.reduceToNat,Zj3]<;>rfl)
   ·clear hh
    have hh:=ho12
    try simp only[w,seval,-Int.reduceToNat]
    apply sp al hh<;>intro _ hh
    ·obtain⟨x17,hx17,hh⟩:=ah hh
     have ax17:=bm (eI .i64) hx17
     simp only[bN]at ax17
     cases hh
     try simp only[w,seval,-Int.reduceToNat,Za,ax11,ax17]
     rw[an]
     refine⟨_,rfl,?_⟩
     and_intros<;>first|rfl|(simp only[w,seval,-Int.reduceToNat,Za]<;>rfl)
    ·cases hh
     try simp only[w,seval,-Int.reduceToNat]
     rw[an]
     refine⟨_,rfl,?_⟩
     and_intros<;>first|rfl|(simp only[w,seval,-Int.reduceToNat,Za]<;>rfl)
  ·cases hh
   try simp only[w,seval,-Int.reduceToNat]
   apply jr
   refine⟨rfl,?_⟩
   and_intros<;>first|rfl|(simp only[w,seval,-Int.reduceToNat,Za]<;>rfl)
 ·rintro x t H e hx
  rcases o9 with⟨s7ax,l0ax⟩
  dsimp only at hx hh
  obtain⟨rfl,Zax⟩:=hx
  try simp only[w,seval,-Int.reduceToNat,Zax]
  apply sp al hh<;>intro _ hh
  ·cases hh
   try simp only[w,seval,-Int.reduceToNat,Zax]
  ·try simp only[w,seval,-Int.reduceToNat,Zax]
   obtain⟨o27,ho27,hh⟩:=ah hh
   refine ay (fun s t H e=>match s with|(s10d,s49d,l0d)=>t 0=.buf 0 0 1 pre.length (l0d).length∧t 1=.sl false false p1.length (ab (eI .i64) p1)∧t 2=.int .i64 p2∧t 10=.int .i64 s10d∧t 48=.int .i64 ((l0ax).length:Int)∧t 49=.int .i64 s49d∧H 0=some ⟨0,3,pre++(ab (eI .i64) l0d++post),false,true,false⟩) (fun o x t H e=>match o with|l0dx=>x=.exit 2∧t 0=.buf 0 0 1 pre.length (l0dx).length∧t 2=.int .i64 p2∧H 0=some ⟨0,3,pre++(ab (eI .i64) l0dx++post),false,true,false⟩) ho27 ?_ ?_ ?_
   ·and_intros<;>first|rfl|(simp only[w,seval,-Int.reduceToNat,Zax]<;>rfl)
   ·rintro⟨s10d,s49d,l0d⟩ t H e Zd c hh
    simp only[jQ]at hh
    try simp only[w,seval,-Int.reduceToNat,Zd]
    apply sp al hh<;>intro _ hh
    ·obtain⟨x29,hx29,hh⟩:=ah hh
     have ax29:=M3 (pre:=pre) (post:=post) (eI .i64) hx29
     simp only[bN]at ax29
     try simp only[w,seval,-Int.reduceToNat,Zd,ax29]
     obtain⟨o30,ho30,hh⟩:=ah hh
     refine jN 0 (fun s t H e=>match s with|s10j6=>t 0=.buf 0 0 1 pre.length (l0d).length∧t 1=.sl false false p1.length (ab (eI .i64) p1)∧t 2=.int .i64 p2∧t 10=.int .i64 s10j6∧t 11=.int .i64 s49d∧t 48=.int .i64 ((l0ax).length:Int)∧t 49=.int .i64 s49d∧H 0=some ⟨0,3,pre++(ab (eI .i64) l0d++post),false,true,false⟩) (fun s=>s=o30) ?_ ?_
     ·rintro s10j6 t H e Zj6 rfl
      try dsimp only at hh
      have ax29:=M3 (pre:=pre) (post:=post) (eI .i64) hx29
      simp only[bN]at ax29
      have p31:=OL (pre:=pre) (post:=post) (eI .i64) (y':=gn .and .i64 s10j6 1048575) hx29
      simp only[bN]at p31
      have up31:=p31
      simp only[putCells,List.length_cons,List.length_nil,agF]at up31
      obtain⟨x32,hx32,hh⟩:=ah hh
      have q33:=lY hx32
      cases hh
      try simp only[w,seval,-Int.reduceToNat,Zj6,ax29,up31,q33]
      apply gL
      and_intros<;>first|rfl|(simp only[w,seval,-Int.reduceToNat,Zj6]<;>rfl)
     ·clear hh
      have hh:=ho30
      try simp only[w,seval,-Int.reduceToNat]
      apply sp al hh<;>intro _ hh
      ·obtain⟨x35,hx35,hh⟩:=ah hh
       have ax35:=bm (eI .i64) hx35
       simp only[bN]at ax35
       cases hh
       try simp only[w,seval,-Int.reduceToNat,Zd,ax29,ax35]
       rw[an]
       refine⟨_,rfl,?_⟩
       and_intros<;>first|rfl|(simp only[w,seval,-Int.reduceToNat,Zd]<;>rfl)
      ·cases hh
       try simp only[w,seval,-Int.reduceToNat]
       rw[an]
       refine⟨_,rfl,?_⟩
       and_intros<;>first|rfl|(simp only[w,seval,-Int.reduceToNat,Zd]<;>rfl)
    ·cases hh
     try simp only[w,seval,-Int.reduceToNat]
     apply jr
     refine⟨rfl,?_⟩
     and_intros<;>first|rfl|(simp only[w,seval,-Int.reduceToNat,Zd]<;>rfl)
   ·rintro x t H e hx
    obtain⟨l0dx,rfl⟩:∃z,z=o27:=⟨_,rfl⟩
    dsimp only at hx hh
    obtain⟨rfl,Zdx⟩:=hx
    cases hh
    try simp only[w,seval,-Int.reduceToNat,Zdx]
theorem Bl:bP prog 216 nH:=bP.adF (mode := .clean) tok bA.none mixed func216 (by kernel_rfl) ⟨by kernel_rfl,by kernel_rfl⟩ (fun _=>ahB (by kernel_rfl)) (fun pre post l x l' r h=>DG pre post l x.1 x.2 (l',r) h)
def ub:=fb (jO (pE (eI .i64)) (eU (pE (eI .i64)))) (fun x:(List Int)×(List Int)=>oN x.1 x.2) (fun r:(List Int)×(List Int) =>.clean (.tup [.sl false false r.1.length (ab (eI .i64) r.1),.sl false false r.2.length (ab (eI .i64) r.2)]))
theorem u6 (p0:(List Int)) (p1:(List Int)):ub none [.sl false false p0.length (ab (eI .i64) p0),.sl false false p1.length (ab (eI .i64) p1)]=(oN p0 p1).map fun r:(List Int)×(List Int)=>(.clean (.tup [.sl false false r.1.length (ab (eI .i64) r.1),.sl false false r.2.length (ab (eI .i64) r.2)]),none):=aJ _ _ _ (p0,p1)
def uL:Env:=(Am.ext (Am.ext (Am.ext (Am.ext (Am.ext (Am.ext a7 106 false eA) 150 false jC) 196 false jY) 197 false uc) 215 false sG) 216 true nH)
theorem Qp:bA prog uL:=((((((bA.none.add gD false).add ov false).add mu false).add D6 false).add Kf false).add Bl true)
theorem aV:type_of% (ai @w<|ai @db<|ai @iu<|ai @fe<|ai @nD<|ai @AM<|@uL.eq_1):=⟨@w,@db,@iu,@fe,@nD,@AM,@uL.eq_1⟩
theorem Vy (p0:(List Int)) (p1:(List Int)) (r:(List Int)×(List Int)) (hh:oN p0 p1=some r):aW .clean tab uL FU Tryz.f191 none [.sl false false p0.length (ab (eI .i64) p0),.sl false false p1.length (ab (eI .i64) p1)]=some (.clean (.tup [.sl false false r.1.length (ab (eI .i64) r.1),.sl false false r.2.length (ab (eI .i64) r.2)]),none):=by
 apply aB rfl ntmps191 results191
 unfold oN at hh
 obtain⟨r1,hr1,hh⟩:=ah hh
 try simp only[aV,seval,-Int.reduceToNat,hr1]
 apply sp al hh<;>intro _ hh
 ·obtain⟨r3,hr3,hh⟩:=ah hh
  cases hh
  try simp only[aV,seval,-Int.reduceToNat,hr3]
 ·try simp only[aV,seval,-Int.reduceToNat]
  apply sp al hh<;>intro _ hh
  ·obtain⟨x5,hx5,hh⟩:=ah hh
   have ax5:=bm (eI .i64) hx5
   simp only[bN]at ax5
   obtain⟨r6,hr6,hh⟩:=ah hh
   have i7:=fe ([r6.2])
   simp only[bo,bN,List.length_cons,agF]at i7
   obtain⟨r8,hr8,hh⟩:=ah hh
   cases hh
   try simp only[aV,seval,-Int.reduceToNat,ax5,hr6,i7,hr8]
  ·try simp only[aV,seval,-Int.reduceToNat]
   obtain⟨o11,ho11,hh⟩:=ah hh
   refine ay (fun s t H e=>match s with|s8a=>t 0=.sl false false p0.length (ab (eI .i64) p0)∧t 1=.sl false false p1.length (ab (eI .i64) p1)∧t 8=.int .i64 s8a) (fun o x t H e=>match o with|s8ax=>x=.exit 0∧t 0=.sl false false p0.length (ab (eI .i64) p0)∧t 1=.sl false false p1.length (ab (eI .i64) p1)∧t 8=.int .i64 s8ax) ho11 ?_ ?_ ?_
   ·and_intros<;>first|rfl|(simp only[aV,seval,-Int.reduceToNat,hr1]<;>rfl)
   ·rintro s8a t H e Za c hh
    simp only[qL]at hh
    obtain⟨x12,hx12,hh⟩:=ah hh
    have ax12:=bm (eI .i64) hx12
    simp only[bN]at ax12
    try simp only[aV,seval,-Int.reduceToNat,Za,ax12]
    apply sp al hh<;>intro _ hh
    ·cases hh
     try simp only[aV,seval,-Int.reduceToNat,Za]
     apply gL
     and_intros<;>first|rfl|(simp only[aV,seval,-Int.reduceToNat,Za]<;>rfl)
    ·cases hh
     try simp only[aV,seval,-Int.reduceToNat]
     apply jr
     refine⟨rfl,?_⟩
     and_intros<;>first|rfl|(simp only[aV,seval,-Int.reduceToNat,Za]<;>rfl)
   ·rintro x t H e hx
    obtain⟨s8ax,rfl⟩:∃z,z=o11:=⟨_,rfl⟩
    dsimp only at hx hh
    obtain⟨rfl,Zax⟩:=hx
    have i14:=nD p0 ([s8ax])
    simp only[bo,bN,List.length_cons,agF]at i14
    obtain⟨r15,hr15,hh⟩:=ah hh
    obtain⟨x16,hx16,hh⟩:=ah hh
    obtain⟨q17a,q17b,q17c,q17d⟩:=gV (eI .i64) hx16
    simp only[bN]at q17b
    have i18:=nD p1 ([s8ax])
    simp only[bo,bN,List.length_cons,agF]at i18
    obtain⟨r19,hr19,hh⟩:=ah hh
    try simp only[aV,seval,-Int.reduceToNat,Zax,i14,hr15,q17a,q17b,q17c,q17d,i18,hr19]
    obtain⟨o20,ho20,hh⟩:=ah hh
    refine jN 0 (fun s t H e=>match s with|l9j2=>∃v9j2:Nat,∃v10j2:Nat,t 8=.int .i64 s8ax∧t 9=.buf 9 v9j2 1 0 (l9j2).length∧t 10=.buf 10 v10j2 1 0 (r19).length∧H 9=some ⟨v9j2,3,ab (eI .i64) l9j2,false,true,false⟩∧H 10=some ⟨v10j2,3,ab (eI .i64) r19,false,true,false⟩) (fun s=>s=o20) ?_ ?_
    ·rintro l9j2 t H e ⟨v9j2,v10j2,Zj2⟩ rfl
     try dsimp only at hh
     obtain⟨x21,hx21,hh⟩:=ah hh
     obtain⟨q22a,q22b,q22c,q22d,q22e⟩:=mk_one (eI .i64) hx21
     simp only[bN]at q22d
     try simp only[aV,seval,-Int.reduceToNat,Zj2,q22a,q22b,q22c,q22d,q22e]
     obtain⟨o58,ho58,hh⟩:=ah hh
     refine ay (fun s t H e=>match s with|(s13c,l9c,l12c)=>∃v9c:Nat,∃v10c:Nat,∃v12c:Nat,∃z10c:Bool,t 8=.int .i64 s8ax∧t 9=.buf 9 v9c 1 0 (l9c).length∧t 10=.buf 10 v10c 1 0 (r19).length∧t 11=.int .i64 ((r19).length:Int)∧t 12=.buf 12 v12c 1 0 (l12c).length∧t 13=.int .i64 s13c∧H 9=some ⟨v9c,3,ab (eI .i64) l9c,false,true,false⟩∧H 10=some ⟨v10c,3,ab (eI .i64) r19,z10c,true,false⟩∧H 12=some ⟨v12c,3,ab (eI .i64) l12c,false,true,false⟩) (fun o x t H e=>match o with|(l9cx,l12cx)=>x=.exit 2∧∃v9cx:Nat,∃v12cx:Nat,t 8=.int .i64 s8ax∧t 9=.buf 9 v9cx 1 0 (l9cx).length∧t 12=.buf 12 v12cx 1 0 (l12cx).length∧H 9=some ⟨v9cx,3,ab (eI .i64) l9cx,false,true,false⟩∧H 12=some ⟨v12cx,3,ab (eI .i64) l12cx,false,true,false⟩) ho58 ?_ ?_ ?_
     ·refine⟨v9j2,v10j2,e+1,false,?_⟩
      and_intros<;>first|rfl|(simp only[aV,seval,-Int.reduceToNat,Zj2]<;>rfl)
     ·rintro⟨s13c,l9c,l12c⟩ t H e ⟨v9c,v10c,v12c,z10c,Zc⟩ c hh
      simp only[qM]at hh
      try simp only[aV,seval,-Int.reduceToNat,Zc]
      apply sp al hh<;>intro _ hh
      ·obtain⟨x60,hx60,hh⟩:=ah hh
       have ax60:=bm (eI .i64) hx60
       simp only[bN]at ax60
       obtain⟨x61,hx61,hh⟩:=ah hh
       have q62:=BK hx61
       obtain⟨x63,hx63,hh⟩:=ah hh
       have ax63:=bm (eI .i64) hx63
       simp only[bN]at ax63
       try simp only[aV,seval,-Int.reduceToNat,Zc,ax60,q62,ax63]
       refine bt (by kernel_rfl) ?_
       obtain⟨x64,hx64,hh⟩:=ah hh
       have ax64:=bm (eI .i64) hx64
       simp only[bN]at ax64
       obtain⟨x65,hx65,hh⟩:=ah hh
       have q66:=qU hx65
       have ax64:=bm (eI .i64) hx64
       simp only[bN]at ax64
       obtain⟨x67,hx67,hh⟩:=ah hh
       have q68:=xS hx67
       try simp only[aV,seval,-Int.reduceToNat,Zc,q66,ax64,q68]
       refine bt (by kernel_rfl) ?_
       try simp only[aV,seval,-Int.reduceToNat,hr1,i14,hr15,q17a,q17b,q17c,q17d,i18,hr19,q22a,q22b,q22c,q22d,q22e,Zc,ax60,q62,ax63,ax64,q66,ax64,q68]
       obtain⟨o78,ho78,hh⟩:=ah hh
       refine ay (fun s t H e=>match s with|(s15g,s16g)=>∃v9g:Nat,∃v10g:Nat,∃v12g:Nat,∃z10g:Bool,t 8=.int .i64 s8ax∧t 9=.buf 9 v9g 1 0 (l9c).length∧t 10=.buf 10 v10g 1 0 (r19).length∧t 11=.int .i64 ((r19).length:Int)∧t 12=.buf 12 v12g 1 0 (l12c).length∧t 13=.int .i64 s13c∧t 15=.int .i64 s15g∧t 16=.int .i64 s16g∧H 9=some ⟨v9g,3,ab (eI .i64) l9c,false,true,false⟩∧H 10=some ⟨v10g,3,ab (eI .i64) r19,z10g,true,false⟩∧H 12=some ⟨v12g,3,ab (eI .i64) l12c,false,true,false⟩) (fun o x t H e=>match o with|s15gx=>x=.exit 4∧∃v9gx:Nat,∃v10gx:Nat,∃v12gx:Nat,∃z10gx:Bool,t 8=.int .i64 s8ax∧t 9=.buf 9 v9gx 1 0 (l9c).length∧t 10=.buf 10 v10gx 1 0 (r19).length∧t 11=.int .i64 ((r19).length:Int)∧t 12=.buf 12 v12gx 1 0 (l12c).length∧t 13=.int .i64 s13c∧t 15=.int .i64 s15gx∧H 9=some ⟨v9gx,3,ab (eI .i64) l9c,false,true,false⟩∧H 10=some ⟨v10gx,3,ab (eI .i64) r19,z10gx,true,false⟩∧H 12=some ⟨v12gx,3,ab (eI .i64) l12c,false,true,false⟩) ho78 ?_ ?_ ?_
       ·refine⟨v9c,v10c,v12c,z10c,?_⟩
        and_intros<;>first|rfl|(simp only[aV,seval,-Int.reduceToNat,Zc]<;>rfl)
       ·rintro⟨s15g,s16g⟩ t H e ⟨v9g,v10g,v12g,z10g,Zg⟩ c hh
        simp only[qN]at hh
        try simp only[aV,seval,-Int.reduceToNat,Zg]
        obtain⟨o79,ho79,hh⟩:=ah hh
        refine E3 0 (fun s t H e=>match s with|s137j9=>∃v9j9:Nat,∃v10j9:Nat,∃v12j9:Nat,∃z10j9:Bool,t 8=.int .i64 s8ax∧t 9=.buf 9 v9j9 1 0 (l9c).length∧t 10=.buf 10 v10j9 1 0 (r19).length∧t 11=.int .i64 ((r19).length:Int)∧t 12=.buf 12 v12j9 1 0 (l12c).length∧t 13=.int .i64 s13c∧t 15=.int .i64 s15g∧t 16=.int .i64 s16g∧t 137=.bool s137j9∧H 9=some ⟨v9j9,3,ab (eI .i64) l9c,false,true,false⟩∧H 10=some ⟨v10j9,3,ab (eI .i64) r19,z10j9,true,false⟩∧H 12=some ⟨v12j9,3,ab (eI .i64) l12c,false,true,false⟩) (fun s=>s=o79) ?_ ?_
        ·rintro s137j9 t H e ⟨v9j9,v10j9,v12j9,z10j9,Zj9⟩ rfl
         try dsimp only at hh
         try simp only[aV,seval,-Int.reduceToNat,Zj9]
         apply sp al hh<;>intro _ hh
         ·have ax64:=bm (eI .i64) hx64
          simp only[bN]at ax64
          cases hh
          try simp only[aV,seval,-Int.reduceToNat,Zj9,ax64]
          apply gL
          refine⟨v9j9,v10j9,v12j9,z10j9,?_⟩
          and_intros<;>first|rfl|(simp only[aV,seval,-Int.reduceToNat,Zj9]<;>rfl)
         ·cases hh
          try simp only[aV,seval,-Int.reduceToNat]
          apply jr
          refine⟨rfl,⟨v9j9,v10j9,v12j9,z10j9,?_⟩⟩
          and_intros<;>first|rfl|(simp only[aV,seval,-Int.reduceToNat,Zj9]<;>rfl)
        ·clear hh
         have hh:=ho79
         try simp only[aV,seval,-Int.reduceToNat]
         apply sp mC hh<;>intro _ hh
         ·try simp only[aV,seval,-Int.reduceToNat]
          refine bt (by kernel_rfl) ?_
          cases hh
          try simp only[aV,seval,-Int.reduceToNat,hr1,i14,hr15,q17a,q17b,q17c,q17d,i18,hr19,q22a,q22b,q22c,q22d,q22e,ax60,q62,ax63,ax64,q66,ax64,q68,Zg]
          rw[an]
          refine⟨_,rfl,?_⟩
          refine⟨v9g,v10g,v12g,z10g,?_⟩
          and_intros<;>first|rfl|(simp only[aV,seval,-Int.reduceToNat,Zg]<;>rfl)
         ·try simp only[aV,seval,-Int.reduceToNat,Zg]
          apply sp KG hh<;>intro _ hh
          ·obtain⟨x83,hx83,hh⟩:=ah hh
           have ax83:=bm (eI .i64) hx83
           simp only[bN]at ax83
           obtain⟨x84,hx84,hh⟩:=ah hh
           have q85:=BK hx84
           obtain⟨x86,hx86,hh⟩:=ah hh
           have ax86:=bm (eI .i64) hx86
           simp only[bN]at ax86
           try simp only[aV,seval,-Int.reduceToNat,q62,Zg,ax83,q85,ax86]
           refine bt (by kernel_rfl) ?_
           cases hh
           try simp only[aV,seval,-Int.reduceToNat,hr1,i14,hr15,q17a,q17b,q17c,q17d,i18,hr19,q22a,q22b,q22c,q22d,q22e,ax60,q62,ax63,ax64,q66,ax64,q68,Zg,ax83,q85,ax86]
           rw[an]
           refine⟨_,rfl,?_⟩
           refine⟨v9g,v10g,v12g,z10g,?_⟩
           and_intros<;>first|rfl|(simp only[aV,seval,-Int.reduceToNat,Zg]<;>rfl)
          ·try simp only[aV,seval,-Int.reduceToNat]
           refine bt (by kernel_rfl) ?_
           cases hh
           try simp only[aV,seval,-Int.reduceToNat,hr1,i14,hr15,q17a,q17b,q17c,q17d,i18,hr19,q22a,q22b,q22c,q22d,q22e,ax60,q62,ax63,ax64,q66,ax64,q68,Zg]
           rw[an]
           refine⟨_,rfl,?_⟩
           refine⟨v9g,v10g,v12g,z10g,?_⟩
           and_intros<;>first|rfl|(simp only[aV,seval,-Int.reduceToNat,Zg]<;>rfl)
       ·rintro x t H e hx
        obtain⟨s15gx,rfl⟩:∃z,z=o78:=⟨_,rfl⟩
        dsimp only at hx hh
        obtain⟨rfl,⟨v9gx,v10gx,v12gx,z10gx,Zgx⟩⟩:=hx
        obtain⟨x87,hx87,hh⟩:=ah hh
        obtain⟨q88a,q88b,q88c,q88d,q88e⟩:=acL (eI .i64) hx87
        simp only[bN]at q88e
        have i89:=Ep (ab (eI .i64) (l9c.take (s13c).toNat)) (ab (eI .i64) (l9c.drop (IntKind.i64.wrap ((IntKind.i64.wrap (s13c+((r19).length:Int)))+1)).toNat)) x87 r19 s15gx
        simp only[aa6,aa7 (eI .i64) hx87,aa8 (eI .i64) hx87,abX hx87,bN]at i89
        obtain⟨r90,hr90,hh⟩:=ah hh
        have q91l:=ze hr90
        have q91m:=Z7 hx87 q91l
        obtain⟨x92,hx92,hh⟩:=ah hh
        have ax92:=bm (eI .i64) hx92
        simp only[bN]at ax92
        have p93:=eZ (eI .i64) (x':=r90.2) (fo:=0) (cs:=[.int .i64 r90.2]) hx92 rfl (ahB rfl)
        simp only[bN,Nat.add_zero]at p93
        have up93:=p93
        simp only[putCells,List.length_cons,List.length_nil,agF]at up93
        cases hh
        try simp only[aV,seval,-Int.reduceToNat,Zgx,q88a,q88b,q88c,i89,hr90,ax92,up93]
        apply gL
        refine⟨v9gx,v10gx,v12gx,true,?_⟩
        and_intros<;>first|rfl|(simp only[aV,seval,-Int.reduceToNat,Zgx,q91m]<;>rfl)
      ·cases hh
       try simp only[aV,seval,-Int.reduceToNat]
       apply jr
       refine⟨rfl,⟨v9c,v12c,?_⟩⟩
       and_intros<;>first|rfl|(simp only[aV,seval,-Int.reduceToNat,Zc]<;>rfl)
     ·rintro x t H e hx
      rcases o58 with⟨l9cx,l12cx⟩
      dsimp only at hx hh
      obtain⟨rfl,⟨v9cx,v12cx,Zcx⟩⟩:=hx
      obtain⟨r94,hr94,hh⟩:=ah hh
      obtain⟨r95,hr95,hh⟩:=ah hh
      obtain⟨r96,hr96,hh⟩:=ah hh
      cases hh
      try simp only[aV,seval,-Int.reduceToNat,Zcx,hr94,hr95,hr96]
    ·clear hh
     have hh:=ho20
     try simp only[aV,seval,-Int.reduceToNat]
     apply sp al hh<;>intro _ hh
     ·obtain⟨x98,hx98,hh⟩:=ah hh
      obtain⟨q99a,q99b,q99c,q99d⟩:=gV (eI .i64) hx98
      simp only[bN]at q99b
      cases hh
      try simp only[aV,seval,-Int.reduceToNat,q99a,q99b,q99c,q99d]
      rw[an]
      refine⟨_,rfl,?_⟩
      refine⟨e+1+1,e,?_⟩
      and_intros<;>first|rfl|(simp only[aV,seval,-Int.reduceToNat,Zax]<;>rfl)
     ·cases hh
      try simp only[aV,seval,-Int.reduceToNat]
      rw[an]
      refine⟨_,rfl,?_⟩
      refine⟨e,e,?_⟩
      and_intros<;>first|rfl|(simp only[aV,seval,-Int.reduceToNat,Zax]<;>rfl)
theorem D5:bP prog 191 ub:=bP.gr (mode := .clean) tok Qp mixed func191 (by kernel_rfl) (fun _=>by kernel_rfl) (fun x r h=>Vy x.1 x.2 r h)
def tY:=fb (jO (bM dx) (eU (bM dx))) (fun x:ak×ak=>mR x.1 x.2) (fun r:ak×Int =>.clean (.tup [.agg [.int .i64 r.1.ae,.sl false false r.1.aa.length (ab (eI .i64) r.1.aa)],.int .i64 r.2]))
theorem u4 (p0_0:Int) (p0_1:(List Int)) (p1_0:Int) (p1_1:(List Int)):tY none [.agg [.int .i64 p0_0,.sl false false p0_1.length (ab (eI .i64) p0_1)],.agg [.int .i64 p1_0,.sl false false p1_1.length (ab (eI .i64) p1_1)]]=(mR (ak.mk p0_0 p0_1) (ak.mk p1_0 p1_1)).map fun r:ak×Int=>(.clean (.tup [.agg [.int .i64 r.1.ae,.sl false false r.1.aa.length (ab (eI .i64) r.1.aa)],.int .i64 r.2]),none):=aJ _ _ _ ((ak.mk p0_0 p0_1),(ak.mk p1_0 p1_1))
def uG:Env:=(Am.keep 6 (Am.ext (Am.ext (Am.ext (Am.ext (Am.ext a7 106 false eA) 140 false eN) 147 false fU) 148 false jB) 191 false ub))
theorem Qk:bA prog uG:=(bA.keep (((((bA.none.add gD false).add fp false).add im false).add ou false).add D5 false) 6)
theorem dO:type_of% (ai @w<|ai @db<|ai @cg<|ai @dI<|ai @eM<|ai @u6<|@uG.eq_1):=⟨@w,@db,@cg,@dI,@eM,@u6,@uG.eq_1⟩
theorem Vt (p0:ak) (p1:ak) (r:ak×Int) (hh:mR p0 p1=some r):aW .clean tab uG FU Tryz.f141 none [.agg [.int .i64 p0.ae,.sl false false p0.aa.length (ab (eI .i64) p0.aa)],.agg [.int .i64 p1.ae,.sl false false p1.aa.length (ab (eI .i64) p1.aa)]]=some (.clean (.tup [.agg [.int .i64 r.1.ae,.sl false false r.1.aa.length (ab (eI .i64) r.1.aa)],.int .i64 r.2]),none):=by
 apply aB rfl ntmps141 results141
 unfold mR at hh
 obtain⟨r1,hr1,hh⟩:=ah hh
 try simp only[dO,seval,hr1]
 obtain⟨o2,ho2,hh⟩:=ah hh
 refine bs 0 (fun s t H e=>match s with|s17j1=>∃v2j1:Nat,∃v3j1:Nat,∃v4j1:Nat,t 2=.ptr 2 v2j1 0∧t 3=.ptr 3 v3j1 0∧t 4=.ptr 4 v4j1 0∧t 17=.bool s17j1∧H 2=some ⟨v2j1,40,[.int .i64 p0.ae,.sl false false p0.aa.length (ab (eI .i64) p0.aa)],false,false,false⟩∧H 3=some ⟨v3j1,40,[.int .i64 p1.ae,.sl false false p1.aa.length (ab (eI .i64) p1.aa)],false,false,false⟩∧H 4=some ⟨v4j1,40,[.int .i64 0,.sl true true 0 []],false,false,false⟩) (fun s=>s=o2) ?_ ?_
 ·rintro s17j1 t H e ⟨v2j1,v3j1,v4j1,Zj1⟩ rfl
  try dsimp only at hh
  try simp only[dO,seval,Zj1]
  apply sp al hh<;>intro _ hh
  ·have i4:=eM false 0 ([])
   simp only[bN]at i4
   obtain⟨r5,hr5,hh⟩:=ah hh
   cases hh
   try simp only[dO,seval,Zj1,i4,hr5]
  ·obtain⟨r6,hr6,hh⟩:=ah hh
   try simp only[dO,seval,Zj1,hr6]
   refine bt (by kernel_rfl) ?_
   try simp only[dO,seval,hr1,Zj1,hr6]
   obtain⟨o9,ho9,hh⟩:=ah hh
   refine ay (fun s t H e=>match s with|(s6b,s7b)=>∃v4b:Nat,t 4=.ptr 4 v4b 0∧t 6=.sl false false s6b.length (ab (eI .i64) s6b)∧t 7=.sl false false s7b.length (ab (eI .i64) s7b)∧H 4=some ⟨v4b,40,[.int .i64 0,.sl true true 0 []],false,false,false⟩) (fun o x t H e=>match o with|s6bx=>x=.exit 0∧∃v4bx:Nat,t 4=.ptr 4 v4bx 0∧t 6=.sl false false s6bx.length (ab (eI .i64) s6bx)∧H 4=some ⟨v4bx,40,[.int .i64 0,.sl true true 0 []],false,false,false⟩) ho9 ?_ ?_ ?_
   ·refine⟨v4j1,?_⟩
    and_intros<;>first|rfl|(simp only[dO,seval,Zj1]<;>rfl)
   ·rintro⟨s6b,s7b⟩ t H e ⟨v4b,Zb⟩ c hh
    simp only[nN]at hh
    try simp only[dO,seval,Zb]
    apply sp al hh<;>intro _ hh
    ·obtain⟨r11,hr11,hh⟩:=ah hh
     cases hh
     try simp only[dO,seval,Zb,hr11]
     apply gL
     refine⟨v4b,?_⟩
     and_intros<;>first|rfl|(simp only[dO,seval,Zb]<;>rfl)
    ·cases hh
     try simp only[dO,seval]
     apply jr
     refine⟨rfl,⟨v4b,?_⟩⟩
     and_intros<;>first|rfl|(simp only[dO,seval,Zb]<;>rfl)
   ·rintro x t H e hx
    obtain⟨s6bx,rfl⟩:∃z,z=o9:=⟨_,rfl⟩
    dsimp only at hx hh
    obtain⟨rfl,⟨v4bx,Zbx⟩⟩:=hx
    obtain⟨r12,hr12,hh⟩:=ah hh
    obtain⟨r13,hr13,hh⟩:=ah hh
    obtain⟨r14,hr14,hh⟩:=ah hh
    cases hh
    try simp only[dO,seval,Zbx,hr12,hr13,hr14]
 ·clear hh
  have hh:=ho2
  try simp only[dO,seval]
  apply sp aN hh<;>intro _ hh
  ·cases hh
   try simp only[dO,seval]
   rw[an]
   refine⟨_,rfl,?_⟩
   refine⟨0,0,0,?_⟩
   and_intros<;>first|rfl|(simp only[dO,seval,hr1]<;>rfl)
  ·obtain⟨r16,hr16,hh⟩:=ah hh
   cases hh
   try simp only[dO,seval,hr16]
   rw[an]
   refine⟨_,rfl,?_⟩
   refine⟨0,0,0,?_⟩
   and_intros<;>first|rfl|(simp only[dO,seval,hr1,hr16]<;>rfl)
theorem D2:bP prog 141 tY:=bP.gr (mode := .clean) tok Qk mixed func141 (by kernel_rfl) (fun _=>by kernel_rfl) (fun x r h=>Vt x.1 x.2 r h)
def yP:=fb (eU (bM dx)) (fun x:ak=>qI x) (fun r:Int×Bool =>.clean (.tup [.int .i64 r.1,.bool r.2]))
theorem Ij (p0_0:Int) (p0_1:(List Int)):yP none [.agg [.int .i64 p0_0,.sl false false p0_1.length (ab (eI .i64) p0_1)]]=(qI (ak.mk p0_0 p0_1)).map fun r:Int×Bool=>(.clean (.tup [.int .i64 r.1,.bool r.2]),none):=aJ _ _ _ ((ak.mk p0_0 p0_1))
def uH:Env:=(Am.ext a7 140 false eN)
theorem Ql:bA prog uH:=(bA.none.add fp false)
theorem bk:type_of% (ai @w<|ai @cg<|@uH.eq_1):=⟨@w,@cg,@uH.eq_1⟩
theorem Vu (p0:ak) (r:Int×Bool) (hh:qI p0=some r):aW .clean tab uH FU Tryz.f192 none [.agg [.int .i64 p0.ae,.sl false false p0.aa.length (ab (eI .i64) p0.aa)]]=some (.clean (.tup [.int .i64 r.1,.bool r.2]),none):=by
 apply aB rfl ntmps192 results192
 unfold qI at hh
 obtain⟨r1,hr1,hh⟩:=ah hh
 try simp only[bk,seval,-Int.reduceToNat,hr1]
 obtain⟨o2,ho2,hh⟩:=ah hh
 refine bs 0 (fun s t H e=>match s with|s15j1=>∃v1j1:Nat,t 1=.ptr 1 v1j1 0∧t 15=.bool s15j1∧H 1=some ⟨v1j1,40,[.int .i64 p0.ae,.sl false false p0.aa.length (ab (eI .i64) p0.aa)],false,false,false⟩) (fun s=>s=o2) ?_ ?_
 ·rintro s15j1 t H e ⟨v1j1,Zj1⟩ rfl
  try dsimp only at hh
  try simp only[bk,seval,-Int.reduceToNat,Zj1]
  apply sp al hh<;>intro _ hh
  ·cases hh
   try simp only[bk,seval,-Int.reduceToNat]
  ·try simp only[bk,seval,-Int.reduceToNat,Zj1]
   obtain⟨o11,ho11,hh⟩:=ah hh
   refine ay (fun s t H e=>match s with|(s4b,s19b)=>∃v1b:Nat,t 1=.ptr 1 v1b 0∧t 4=.int .u64 s4b∧t 17=.sl false false p0.aa.length (ab (eI .i64) p0.aa)∧t 18=.int .i64 (p0.aa.length:Int)∧t 19=.int .i64 s19b∧H 1=some ⟨v1b,40,[.int .i64 p0.ae,.sl false false p0.aa.length (ab (eI .i64) p0.aa)],false,false,false⟩) (fun o x t H e=>match o with|(.inl s4bx)=>x=.exit 0∧∃v1bx:Nat,t 1=.ptr 1 v1bx 0∧t 4=.int .u64 s4bx∧H 1=some ⟨v1bx,40,[.int .i64 p0.ae,.sl false false p0.aa.length (ab (eI .i64) p0.aa)],false,false,false⟩|(.inr r)=>x=.ret∧eR .clean tab none [.tmp 2,.tmp 3] ⟨t,EH H,e⟩=some (.clean (.tup [.int .i64 r.1,.bool r.2]),none)) ho11 ?_ ?_ ?_
   ·refine⟨v1j1,?_⟩
    and_intros<;>first|rfl|(simp only[bk,seval,-Int.reduceToNat,Zj1]<;>rfl)
   ·rintro⟨s4b,s19b⟩ t H e ⟨v1b,Zb⟩ c hh
    simp only[qJ]at hh
    try simp only[bk,seval,-Int.reduceToNat,Zb]
    apply sp al hh<;>intro _ hh
    ·obtain⟨x13,hx13,hh⟩:=ah hh
     have ax13:=bm (eI .i64) hx13
     simp only[bN]at ax13
     try simp only[bk,seval,-Int.reduceToNat,Zb,ax13]
     obtain⟨o14,ho14,hh⟩:=ah hh
     refine bs 0 (fun s t H e=>match s with|s29j4=>∃v1j4:Nat,t 1=.ptr 1 v1j4 0∧t 4=.int .u64 s4b∧t 5=.int .i64 s19b∧t 6=.int .i64 x13∧t 17=.sl false false p0.aa.length (ab (eI .i64) p0.aa)∧t 18=.int .i64 (p0.aa.length:Int)∧t 19=.int .i64 s19b∧t 29=.bool s29j4∧H 1=some ⟨v1j4,40,[.int .i64 p0.ae,.sl false false p0.aa.length (ab (eI .i64) p0.aa)],false,false,false⟩) (fun s=>s=o14) ?_ ?_
     ·rintro s29j4 t H e ⟨v1j4,Zj4⟩ rfl
      try dsimp only at hh
      try simp only[bk,seval,-Int.reduceToNat,Zj4]
      apply sp al hh<;>intro _ hh
      ·cases hh
       try simp only[bk,seval,-Int.reduceToNat]
       refine rz ⟨rfl,?_⟩
       try simp only[bk,seval,-Int.reduceToNat]
      ·obtain⟨x16,hx16,hh⟩:=ah hh
       have q17:=BK hx16
       cases hh
       try simp only[bk,seval,-Int.reduceToNat,Zj4,q17]
       apply gL
       refine⟨v1j4,?_⟩
       and_intros<;>first|rfl|(simp only[bk,seval,-Int.reduceToNat,Zj4]<;>rfl)
     ·clear hh
      have hh:=ho14
      try simp only[bk,seval,-Int.reduceToNat]
      apply sp cY hh<;>intro _ hh
      ·cases hh
       try simp only[bk,seval,-Int.reduceToNat]
       rw[an]
       refine⟨_,rfl,?_⟩
       refine⟨v1b,?_⟩
       and_intros<;>first|rfl|(simp only[bk,seval,-Int.reduceToNat,Zb]<;>rfl)
      ·cases hh
       try simp only[bk,seval,-Int.reduceToNat]
       rw[an]
       refine⟨_,rfl,?_⟩
       refine⟨v1b,?_⟩
       and_intros<;>first|rfl|(simp only[bk,seval,-Int.reduceToNat,Zb]<;>rfl)
    ·cases hh
     try simp only[bk,seval,-Int.reduceToNat]
     apply jr
     refine⟨rfl,⟨v1b,?_⟩⟩
     and_intros<;>first|rfl|(simp only[bk,seval,-Int.reduceToNat,Zb]<;>rfl)
   ·rintro x t H e hx
    rcases o11 with s4bx|rb
    ·dsimp only at hx hh
     obtain⟨rfl,⟨v1bx,Zbx⟩⟩:=hx
     try simp only[bk,seval,-Int.reduceToNat,Zbx]
     obtain⟨o19,ho19,hh⟩:=ah hh
     refine bs 0 (fun s t H e=>match s with|s38j5=>∃v1j5:Nat,t 1=.ptr 1 v1j5 0∧t 4=.int .u64 s4bx∧t 38=.bool s38j5∧H 1=some ⟨v1j5,40,[.int .i64 p0.ae,.sl false false p0.aa.length (ab (eI .i64) p0.aa)],false,false,false⟩) (fun s=>s=o19) ?_ ?_
     ·rintro s38j5 t H e ⟨v1j5,Zj5⟩ rfl
      try dsimp only at hh
      try simp only[bk,seval,-Int.reduceToNat,Zj5]
      apply sp al hh<;>intro _ hh
      ·cases hh
       try simp only[bk,seval,-Int.reduceToNat,Zj5]
      ·try simp only[bk,seval,-Int.reduceToNat,Zj5]
       apply sp cY hh<;>intro _ hh
       ·try simp only[bk,seval,-Int.reduceToNat,Zj5]
        apply sp al hh<;>intro _ hh
        ·cases hh
         try simp only[bk,seval,-Int.reduceToNat,Zj5]
        ·cases hh
         try simp only[bk,seval,-Int.reduceToNat]
       ·cases hh
        try simp only[bk,seval,-Int.reduceToNat]
     ·clear hh
      have hh:=ho19
      try simp only[bk,seval,-Int.reduceToNat]
      apply sp cY hh<;>intro _ hh
      ·cases hh
       try simp only[bk,seval,-Int.reduceToNat,Zbx]
       rw[an]
       refine⟨_,rfl,?_⟩
       refine⟨v1bx,?_⟩
       and_intros<;>first|rfl|(simp only[bk,seval,-Int.reduceToNat,Zbx]<;>rfl)
      ·cases hh
       try simp only[bk,seval,-Int.reduceToNat]
       rw[an]
       refine⟨_,rfl,?_⟩
       refine⟨v1bx,?_⟩
       and_intros<;>first|rfl|(simp only[bk,seval,-Int.reduceToNat,Zbx]<;>rfl)
    ·dsimp only at hx hh
     obtain⟨rfl,hE⟩:=hx
     cases hh
     try simp only[aU,bd,b7,b5]
     exact hE
 ·clear hh
  have hh:=ho2
  try simp only[bk,seval,-Int.reduceToNat]
  apply sp aN hh<;>intro _ hh
  ·cases hh
   try simp only[bk,seval,-Int.reduceToNat]
   rw[an]
   refine⟨_,rfl,?_⟩
   refine⟨0,?_⟩
   and_intros<;>first|rfl|(simp only[bk,seval,-Int.reduceToNat,hr1]<;>rfl)
  ·cases hh
   try simp only[bk,seval,-Int.reduceToNat]
   rw[an]
   refine⟨_,rfl,?_⟩
   refine⟨0,?_⟩
   and_intros<;>first|rfl|(simp only[bk,seval,-Int.reduceToNat,hr1]<;>rfl)
theorem Q6:bP prog 192 yP:=bP.gr (mode := .clean) tok Ql mixed func192 (by kernel_rfl) (fun _=>by kernel_rfl) (fun x r h=>Vu x r h)
def wq:=fb (eU (bM dx)) (fun x:ak=>oc x) (fun r:Bool =>.clean (.bool r))
theorem Et (p0_0:Int) (p0_1:(List Int)):wq none [.agg [.int .i64 p0_0,.sl false false p0_1.length (ab (eI .i64) p0_1)]]=(oc (ak.mk p0_0 p0_1)).map fun r:Bool=>(.clean (.bool r),none):=aJ _ _ _ ((ak.mk p0_0 p0_1))
def q8:Env:=(Am.ext a7 192 false yP)
theorem MF:bA prog q8:=(bA.none.add Q6 false)
theorem wU:type_of% (ai @w<|ai @Ij<|@q8.eq_1):=⟨@w,@Ij,@q8.eq_1⟩
theorem QO (p0:ak) (r:Bool) (hh:oc p0=some r):aW .clean tab q8 FU Tryz.f142 none [.agg [.int .i64 p0.ae,.sl false false p0.aa.length (ab (eI .i64) p0.aa)]]=some (.clean (.bool r),none):=by
 apply aB rfl ntmps142 results142
 unfold oc at hh
 obtain⟨r1,hr1,hh⟩:=ah hh
 try simp only[wU,seval,hr1]
 apply sp cY hh<;>intro _ hh
 ·cases hh
  try simp only[wU,seval]
 ·cases hh
  try simp only[wU,seval]
theorem Ox:bP prog 142 wq:=bP.gr (mode := .clean) tok MF mixed func142 (by kernel_rfl) (fun _=>by kernel_rfl) (fun x r h=>QO x r h)
def fk:=fb (eU (bM aC)) (fun x:ao=>cz x) (fun r:Bool =>.clean (.bool r))
theorem cO (p0_0:Int) (p0_1:(List Int)) (p0_2:Int) (p0_3:(List Int)):fk none [.agg [.int .i64 p0_0,.sl false false p0_1.length (ab (eI .i64) p0_1),.int .i64 p0_2,.sl false false p0_3.length (ab (eI .i64) p0_3)]]=(cz (ao.mk (ak.mk p0_0 p0_1) (ak.mk p0_2 p0_3))).map fun r:Bool=>(.clean (.bool r),none):=aJ _ _ _ ((ao.mk (ak.mk p0_0 p0_1) (ak.mk p0_2 p0_3)))
def nc:Env:=(Am.ext (Am.ext (Am.ext a7 140 false eN) 141 false tY) 142 false wq)
theorem Ft:bA prog nc:=(((bA.none.add fp false).add D2 false).add Ox false)
theorem cP:type_of% (ai @w<|ai @cg<|ai @u4<|ai @Et<|@nc.eq_1):=⟨@w,@cg,@u4,@Et,@nc.eq_1⟩
theorem J2 (p0:ao) (r:Bool) (hh:cz p0=some r):aW .clean tab nc FU Tryz.f83 none [.agg [.int .i64 p0.aZ.ae,.sl false false p0.aZ.aa.length (ab (eI .i64) p0.aZ.aa),.int .i64 p0.aY.ae,.sl false false p0.aY.aa.length (ab (eI .i64) p0.aY.aa)]]=some (.clean (.bool r),none):=by
 apply aB rfl ntmps83 results83
 unfold cz at hh
 obtain⟨r1,hr1,hh⟩:=ah hh
 try simp only[cP,seval,hr1]
 obtain⟨o2,ho2,hh⟩:=ah hh
 refine bs 0 (fun s t H e=>match s with|s20j1=>∃v1j1:Nat,t 1=.ptr 1 v1j1 0∧t 20=.bool s20j1∧H 1=some ⟨v1j1,42,[.int .i64 p0.aZ.ae,.sl false false p0.aZ.aa.length (ab (eI .i64) p0.aZ.aa),.int .i64 p0.aY.ae,.sl false false p0.aY.aa.length (ab (eI .i64) p0.aY.aa)],false,false,false⟩) (fun s=>s=o2) ?_ ?_
 ·rintro s20j1 t H e ⟨v1j1,Zj1⟩ rfl
  try dsimp only at hh
  try simp only[cP,seval,Zj1]
  apply sp al hh<;>intro _ hh
  ·cases hh
   try simp only[cP,seval]
  ·obtain⟨r4,hr4,hh⟩:=ah hh
   try simp only[cP,seval,Zj1,hr4]
   apply sp cY hh<;>intro _ hh
   ·obtain⟨r6,hr6,hh⟩:=ah hh
    cases hh
    try simp only[cP,seval,hr6]
   ·cases hh
    try simp only[cP,seval]
 ·clear hh
  have hh:=ho2
  try simp only[cP,seval]
  apply sp aN hh<;>intro _ hh
  ·cases hh
   try simp only[cP,seval]
   rw[an]
   refine⟨_,rfl,?_⟩
   refine⟨0,?_⟩
   and_intros<;>first|rfl|(simp only[cP,seval,hr1]<;>rfl)
  ·obtain⟨r8,hr8,hh⟩:=ah hh
   try simp only[cP,seval,hr8]
   apply sp aN hh<;>intro _ hh
   ·cases hh
    try simp only[cP,seval]
    rw[an]
    refine⟨_,rfl,?_⟩
    refine⟨0,?_⟩
    and_intros<;>first|rfl|(simp only[cP,seval,hr1,hr8]<;>rfl)
   ·cases hh
    try simp only[cP,seval]
    rw[an]
    refine⟨_,rfl,?_⟩
    refine⟨0,?_⟩
    and_intros<;>first|rfl|(simp only[cP,seval,hr1,hr8]<;>rfl)
theorem gu:bP prog 83 fk:=bP.gr (mode := .clean) tok Ft mixed func83 (by kernel_rfl) (fun _=>by kernel_rfl) (fun x r h=>J2 x r h)
def gM:=fb (eU (bM aC)) (fun x:ao=>eD x) (fun r:Int =>.clean (.int .i64 r))
theorem eo (p0_0:Int) (p0_1:(List Int)) (p0_2:Int) (p0_3:(List Int)):gM none [.agg [.int .i64 p0_0,.sl false false p0_1.length (ab (eI .i64) p0_1),.int .i64 p0_2,.sl false false p0_3.length (ab (eI .i64) p0_3)]]=(eD (ao.mk (ak.mk p0_0 p0_1) (ak.mk p0_2 p0_3))).map fun r:Int=>(.clean (.int .i64 r),none):=aJ _ _ _ ((ao.mk (ak.mk p0_0 p0_1) (ak.mk p0_2 p0_3)))
def oT:Env:=(Am.ext a7 83 false fk)
theorem JP:bA prog oT:=(bA.none.add gu false)
theorem tV:type_of% (ai @w<|ai @cO<|@oT.eq_1):=⟨@w,@cO,@oT.eq_1⟩
theorem NN (p0:ao) (r:Int) (hh:eD p0=some r):aW .clean tab oT FU Tryz.f39 none [.agg [.int .i64 p0.aZ.ae,.sl false false p0.aZ.aa.length (ab (eI .i64) p0.aZ.aa),.int .i64 p0.aY.ae,.sl false false p0.aY.aa.length (ab (eI .i64) p0.aY.aa)]]=some (.clean (.int .i64 r),none):=by
 apply aB rfl ntmps39 results39
 unfold eD at hh
 obtain⟨r1,hr1,hh⟩:=ah hh
 try simp only[tV,seval,hr1]
 apply sp al hh<;>intro _ hh
 ·cases hh
  try simp only[tV,seval]
 ·cases hh
  try simp only[tV,seval]
theorem jg:bP prog 39 gM:=bP.gr (mode := .clean) tok JP mixed func39 (by kernel_rfl) (fun _=>by kernel_rfl) (fun x r h=>NN x r h)
def yQ:=fb (jO (bM dx) (eU (bM dx))) (fun x:ak×ak=>qK x.1 x.2) (fun r:ak×Int =>.clean (.tup [.agg [.int .i64 r.1.ae,.sl false false r.1.aa.length (ab (eI .i64) r.1.aa)],.int .i64 r.2]))
theorem Ik (p0_0:Int) (p0_1:(List Int)) (p1_0:Int) (p1_1:(List Int)):yQ none [.agg [.int .i64 p0_0,.sl false false p0_1.length (ab (eI .i64) p0_1)],.agg [.int .i64 p1_0,.sl false false p1_1.length (ab (eI .i64) p1_1)]]=(qK (ak.mk p0_0 p0_1) (ak.mk p1_0 p1_1)).map fun r:ak×Int=>(.clean (.tup [.agg [.int .i64 r.1.ae,.sl false false r.1.aa.length (ab (eI .i64) r.1.aa)],.int .i64 r.2]),none):=aJ _ _ _ ((ak.mk p0_0 p0_1),(ak.mk p1_0 p1_1))
def uI:Env:=(Am.ext (Am.ext (Am.ext (Am.ext a7 140 false eN) 147 false fU) 148 false jB) 197 false uc)
theorem Qm:bA prog uI:=((((bA.none.add fp false).add im false).add ou false).add D6 false)
theorem jm:type_of% (ai @w<|ai @cg<|ai @dI<|ai @eM<|ai @nD<|@uI.eq_1):=⟨@w,@cg,@dI,@eM,@nD,@uI.eq_1⟩
theorem Vv (p0:ak) (p1:ak) (r:ak×Int) (hh:qK p0 p1=some r):aW .clean tab uI FU Tryz.f152 none [.agg [.int .i64 p0.ae,.sl false false p0.aa.length (ab (eI .i64) p0.aa)],.agg [.int .i64 p1.ae,.sl false false p1.aa.length (ab (eI .i64) p1.aa)]]=some (.clean (.tup [.agg [.int .i64 r.1.ae,.sl false false r.1.aa.length (ab (eI .i64) r.1.aa)],.int .i64 r.2]),none):=by
 apply aB rfl ntmps152 results152
 unfold qK at hh
 obtain⟨r1,hr1,hh⟩:=ah hh
 try simp only[jm,seval,hr1]
 obtain⟨o2,ho2,hh⟩:=ah hh
 refine bs 0 (fun s t H e=>match s with|s13j1=>∃v2j1:Nat,∃v3j1:Nat,∃v4j1:Nat,t 2=.ptr 2 v2j1 0∧t 3=.ptr 3 v3j1 0∧t 4=.ptr 4 v4j1 0∧t 13=.bool s13j1∧H 2=some ⟨v2j1,40,[.int .i64 p0.ae,.sl false false p0.aa.length (ab (eI .i64) p0.aa)],false,false,false⟩∧H 3=some ⟨v3j1,40,[.int .i64 p1.ae,.sl false false p1.aa.length (ab (eI .i64) p1.aa)],false,false,false⟩∧H 4=some ⟨v4j1,40,[.int .i64 0,.sl true true 0 []],false,false,false⟩) (fun s=>s=o2) ?_ ?_
 ·rintro s13j1 t H e ⟨v2j1,v3j1,v4j1,Zj1⟩ rfl
  try dsimp only at hh
  try simp only[jm,seval,Zj1]
  apply sp al hh<;>intro _ hh
  ·have i4:=eM false 0 ([])
   simp only[bN]at i4
   obtain⟨r5,hr5,hh⟩:=ah hh
   cases hh
   try simp only[jm,seval,Zj1,i4,hr5]
  ·obtain⟨r6,hr6,hh⟩:=ah hh
   obtain⟨r7,hr7,hh⟩:=ah hh
   obtain⟨r8,hr8,hh⟩:=ah hh
   try simp only[jm,seval,Zj1,hr6,hr7,hr8]
   refine bt (by kernel_rfl) ?_
   cases hh
   try simp only[seval]
 ·clear hh
  have hh:=ho2
  try simp only[jm,seval]
  apply sp aN hh<;>intro _ hh
  ·cases hh
   try simp only[jm,seval]
   rw[an]
   refine⟨_,rfl,?_⟩
   refine⟨0,0,0,?_⟩
   and_intros<;>first|rfl|(simp only[jm,seval,hr1]<;>rfl)
  ·obtain⟨r10,hr10,hh⟩:=ah hh
   cases hh
   try simp only[jm,seval,hr10]
   rw[an]
   refine⟨_,rfl,?_⟩
   refine⟨0,0,0,?_⟩
   and_intros<;>first|rfl|(simp only[jm,seval,hr1,hr10]<;>rfl)
theorem Q7:bP prog 152 yQ:=bP.gr (mode := .clean) tok Qm mixed func152 (by kernel_rfl) (fun _=>by kernel_rfl) (fun x r h=>Vv x.1 x.2 r h)
def kH:=fb (jO (bM dx) (eU (bM dx))) (fun x:ak×ak=>du x.1 x.2) (fun r:ak =>.clean (.agg [.int .i64 r.ae,.sl false false r.aa.length (ab (eI .i64) r.aa)]))
theorem jj (p0_0:Int) (p0_1:(List Int)) (p1_0:Int) (p1_1:(List Int)):kH none [.agg [.int .i64 p0_0,.sl false false p0_1.length (ab (eI .i64) p0_1)],.agg [.int .i64 p1_0,.sl false false p1_1.length (ab (eI .i64) p1_1)]]=(du (ak.mk p0_0 p0_1) (ak.mk p1_0 p1_1)).map fun r:ak=>(.clean (.agg [.int .i64 r.ae,.sl false false r.aa.length (ab (eI .i64) r.aa)]),none):=aJ _ _ _ ((ak.mk p0_0 p0_1),(ak.mk p1_0 p1_1))
def nd:Env:=(Am.ext a7 152 false yQ)
theorem Fu:bA prog nd:=(bA.none.add Q7 false)
theorem KN:type_of% (ai @w<|ai @Ik<|@nd.eq_1):=⟨@w,@Ik,@nd.eq_1⟩
theorem J3 (p0:ak) (p1:ak) (r:ak) (hh:du p0 p1=some r):aW .clean tab nd FU Tryz.f92 none [.agg [.int .i64 p0.ae,.sl false false p0.aa.length (ab (eI .i64) p0.aa)],.agg [.int .i64 p1.ae,.sl false false p1.aa.length (ab (eI .i64) p1.aa)]]=some (.clean (.agg [.int .i64 r.ae,.sl false false r.aa.length (ab (eI .i64) r.aa)]),none):=by
 apply aB rfl ntmps92 results92
 unfold du at hh
 obtain⟨r1,hr1,hh⟩:=ah hh
 cases hh
 try simp only[KN,seval,hr1]
theorem pJ:bP prog 92 kH:=bP.gr (mode := .clean) tok Fu mixed func92 (by kernel_rfl) (fun _=>by kernel_rfl) (fun x r h=>J3 x.1 x.2 r h)
def w7:=fb (eU (pE (eI .i64))) (fun x:(List Int)=>sX x) (fun r:Int =>.clean (.int .i64 r))
theorem qg (p0:(List Int)):w7 none [.sl false false p0.length (ab (eI .i64) p0)]=(sX p0).map fun r:Int=>(.clean (.int .i64 r),none):=aJ _ _ _ (p0)
theorem Yf (p0:(List Int)) (r:Int) (hh:sX p0=some r):aW .clean tab a7 FU Tryz.f138 none [.sl false false p0.length (ab (eI .i64) p0)]=some (.clean (.int .i64 r),none):=by
 apply aB rfl ntmps138 results138
 unfold sX at hh
 try simp only[w,seval]
 obtain⟨o4,ho4,hh⟩:=ah hh
 refine ay (fun s t H e=>match s with|s8a=>t 3=.int .i64 0∧t 6=.sl false false p0.length (ab (eI .i64) p0)∧t 7=.int .i64 (p0.length:Int)∧t 8=.int .i64 s8a) (fun o x t H e=>match o with|(.inl _)=>x=.exit 0∧t 3=.int .i64 0|(.inr r)=>x=.ret∧eR .clean tab none [.tmp 2] ⟨t,EH H,e⟩=some (.clean (.int .i64 r),none)) ho4 ?_ ?_ ?_
 ·and_intros<;>first|rfl|(simp only[w,seval]<;>rfl)
 ·rintro s8a t H e Za c hh
  simp only[uv]at hh
  try simp only[w,seval,Za]
  apply sp al hh<;>intro _ hh
  ·obtain⟨x6,hx6,hh⟩:=ah hh
   have ax6:=bm (eI .i64) hx6
   simp only[bN]at ax6
   try simp only[w,seval,Za,ax6]
   apply sp al hh<;>intro _ hh
   ·cases hh
    try simp only[w,seval]
    refine rz ⟨rfl,?_⟩
    try simp only[w,seval]
   ·cases hh
    try simp only[w,seval,Za]
    apply gL
    and_intros<;>first|rfl|(simp only[w,seval,Za]<;>rfl)
  ·cases hh
   try simp only[w,seval]
   apply jr
   refine⟨rfl,?_⟩
   and_intros<;>first|rfl|(simp only[w,seval,Za]<;>rfl)
 ·rintro x t H e hx
  rcases o4 with _|ra
  ·dsimp only at hx hh
   obtain⟨rfl,Zax⟩:=hx
   cases hh
   try simp only[w,seval,Zax]
  ·dsimp only at hx hh
   obtain⟨rfl,hE⟩:=hx
   cases hh
   try simp only[aU,bd,b7,b5]
   exact hE
theorem H7:bP prog 138 w7:=bP.gr (mode := .clean) tok bA.none mixed func138 (by kernel_rfl) (fun _=>by kernel_rfl) (fun x r h=>Yf x r h)
def ua:=fb (jO (pE (eI .i64)) (eU (pE (eI .i64)))) (fun x:(List Int)×(List Int)=>oM x.1 x.2) (fun r:(List Int) =>.clean (.sl false false r.length (ab (eI .i64) r)))
theorem qf (p0:(List Int)) (p1:(List Int)):ua none [.sl false false p0.length (ab (eI .i64) p0),.sl false false p1.length (ab (eI .i64) p1)]=(oM p0 p1).map fun r:(List Int)=>(.clean (.sl false false r.length (ab (eI .i64) r)),none):=aJ _ _ _ (p0,p1)
def uK:Env:=(Am.ext a7 196 false jY)
theorem Qo:bA prog uK:=(bA.none.add mu false)
theorem cW:type_of% (ai @w<|ai @fe<|@uK.eq_1):=⟨@w,@fe,@uK.eq_1⟩
theorem Vx (p0:(List Int)) (p1:(List Int)) (r:(List Int)) (hh:oM p0 p1=some r):aW .clean tab uK FU Tryz.f149 none [.sl false false p0.length (ab (eI .i64) p0),.sl false false p1.length (ab (eI .i64) p1)]=some (.clean (.sl false false r.length (ab (eI .i64) r)),none):=by
 apply aB rfl ntmps149 results149
 unfold oM at hh
 try simp only[cW,seval,-Int.reduceToNat]
 obtain⟨o1,ho1,hh⟩:=ah hh
 refine jN 0 (fun s t H e=>match s with|(s0j1,s1j1)=>t 0=.sl false false s0j1.length (ab (eI .i64) s0j1)∧t 1=.sl false false s1j1.length (ab (eI .i64) s1j1)) (fun s=>s=o1) ?_ ?_
 ·rintro⟨s0j1,s1j1⟩ t H e Zj1 rfl
  try dsimp only at hh
  obtain⟨x2,hx2,hh⟩:=ah hh
  obtain⟨q3a,q3b,q3c,q3d,q3e⟩:=mk_one (eI .i64) hx2
  simp only[bN]at q3d
  try simp only[cW,seval,-Int.reduceToNat,Zj1,q3a,q3b,q3c,q3d,q3e]
  obtain⟨o13,ho13,hh⟩:=ah hh
  refine ay (fun s t H e=>match s with|(s6b,s22b,l5b)=>∃v5b:Nat,t 0=.sl false false s0j1.length (ab (eI .i64) s0j1)∧t 1=.sl false false s1j1.length (ab (eI .i64) s1j1)∧t 5=.buf 5 v5b 1 0 (l5b).length∧t 6=.int .i64 s6b∧t 20=.sl false false s0j1.length (ab (eI .i64) s0j1)∧t 21=.int .i64 (s0j1.length:Int)∧t 22=.int .i64 s22b∧H 5=some ⟨v5b,3,ab (eI .i64) l5b,false,true,false⟩) (fun o x t H e=>match o with|(s6bx,l5bx)=>x=.exit 0∧∃v5bx:Nat,t 0=.sl false false s0j1.length (ab (eI .i64) s0j1)∧t 5=.buf 5 v5bx 1 0 (l5bx).length∧t 6=.int .i64 s6bx∧H 5=some ⟨v5bx,3,ab (eI .i64) l5bx,false,true,false⟩) ho13 ?_ ?_ ?_
  ·refine⟨e,?_⟩
   and_intros<;>first|rfl|(simp only[cW,seval,-Int.reduceToNat,Zj1]<;>rfl)
  ·rintro⟨s6b,s22b,l5b⟩ t H e ⟨v5b,Zb⟩ c hh
   simp only[nO]at hh
   try simp only[cW,seval,-Int.reduceToNat,Zb]
   apply sp al hh<;>intro _ hh
   ·obtain⟨x15,hx15,hh⟩:=ah hh
    have ax15:=bm (eI .i64) hx15
    simp only[bN]at ax15
    try simp only[cW,seval,-Int.reduceToNat,Zb,ax15]
    obtain⟨o16,ho16,hh⟩:=ah hh
    refine jN 0 (fun s t H e=>match s with|s6j4=>∃v5j4:Nat,t 0=.sl false false s0j1.length (ab (eI .i64) s0j1)∧t 1=.sl false false s1j1.length (ab (eI .i64) s1j1)∧t 5=.buf 5 v5j4 1 0 (l5b).length∧t 6=.int .i64 s6j4∧t 7=.int .i64 s22b∧t 20=.sl false false s0j1.length (ab (eI .i64) s0j1)∧t 21=.int .i64 (s0j1.length:Int)∧t 22=.int .i64 s22b∧H 5=some ⟨v5j4,3,ab (eI .i64) l5b,false,true,false⟩) (fun s=>s=o16) ?_ ?_
    ·rintro s6j4 t H e ⟨v5j4,Zj4⟩ rfl
     try dsimp only at hh
     obtain⟨x17,hx17,hh⟩:=ah hh
     have ax17:=bm (eI .i64) hx17
     simp only[bN]at ax17
     have p18:=eZ (eI .i64) (x':=gn .and .i64 s6j4 1048575) (fo:=0) (cs:=[.int .i64 (gn .and .i64 s6j4 1048575)]) hx17 rfl (ahB rfl)
     simp only[bN,Nat.add_zero]at p18
     have up18:=p18
     simp only[putCells,List.length_cons,List.length_nil,agF]at up18
     obtain⟨x19,hx19,hh⟩:=ah hh
     have q20:=lY hx19
     cases hh
     try simp only[cW,seval,-Int.reduceToNat,ax15,Zj4,ax17,up18,q20]
     apply gL
     refine⟨v5j4,?_⟩
     and_intros<;>first|rfl|(simp only[cW,seval,-Int.reduceToNat,Zj4]<;>rfl)
    ·clear hh
     have hh:=ho16
     try simp only[cW,seval,-Int.reduceToNat]
     apply sp al hh<;>intro _ hh
     ·obtain⟨x22,hx22,hh⟩:=ah hh
      have ax22:=bm (eI .i64) hx22
      simp only[bN]at ax22
      cases hh
      try simp only[cW,seval,-Int.reduceToNat,Zb,ax15,ax22]
      rw[an]
      refine⟨_,rfl,?_⟩
      refine⟨v5b,?_⟩
      and_intros<;>first|rfl|(simp only[cW,seval,-Int.reduceToNat,Zb]<;>rfl)
     ·cases hh
      try simp only[cW,seval,-Int.reduceToNat]
      rw[an]
      refine⟨_,rfl,?_⟩
      refine⟨v5b,?_⟩
      and_intros<;>first|rfl|(simp only[cW,seval,-Int.reduceToNat,Zb]<;>rfl)
   ·cases hh
    try simp only[cW,seval,-Int.reduceToNat]
    apply jr
    refine⟨rfl,⟨v5b,?_⟩⟩
    and_intros<;>first|rfl|(simp only[cW,seval,-Int.reduceToNat,Zb]<;>rfl)
  ·rintro x t H e hx
   rcases o13 with⟨s6bx,l5bx⟩
   dsimp only at hx hh
   obtain⟨rfl,⟨v5bx,Zbx⟩⟩:=hx
   obtain⟨x23,hx23,hh⟩:=ah hh
   have ax23:=bm (eI .i64) hx23
   simp only[bN]at ax23
   have p24:=eZ (eI .i64) (x':=s6bx) (fo:=0) (cs:=[.int .i64 s6bx]) hx23 rfl (ahB rfl)
   simp only[bN,Nat.add_zero]at p24
   have up24:=p24
   simp only[putCells,List.length_cons,List.length_nil,agF]at up24
   have i25:=fe (l5bx.set ((s0j1.length:Int)).toNat s6bx)
   simp only[ahR]at i25
   obtain⟨r26,hr26,hh⟩:=ah hh
   cases hh
   try simp only[cW,seval,-Int.reduceToNat,Zbx,ax23,up24,i25,hr26]
 ·clear hh
  have hh:=ho1
  try simp only[cW,seval,-Int.reduceToNat]
  apply sp al hh<;>intro _ hh
  ·cases hh
   try simp only[cW,seval,-Int.reduceToNat]
   rw[an]
   refine⟨_,rfl,?_⟩
   and_intros<;>first|rfl|(simp only[cW,seval,-Int.reduceToNat]<;>rfl)
  ·cases hh
   try simp only[cW,seval,-Int.reduceToNat]
   rw[an]
   refine⟨_,rfl,?_⟩
   and_intros<;>first|rfl|(simp only[cW,seval,-Int.reduceToNat]<;>rfl)
theorem D4:bP prog 149 ua:=bP.gr (mode := .clean) tok Qo mixed func149 (by kernel_rfl) (fun _=>by kernel_rfl) (fun x r h=>Vx x.1 x.2 r h)
def ud:=fb (jO (pE (eI .i64)) (eU (pE (eI .i64)))) (fun x:(List Int)×(List Int)=>mV x.1 x.2) (fun r:(List Int) =>.clean (.sl false false r.length (ab (eI .i64) r)))
theorem u7 (p0:(List Int)) (p1:(List Int)):ud none [.sl false false p0.length (ab (eI .i64) p0),.sl false false p1.length (ab (eI .i64) p1)]=(mV p0 p1).map fun r:(List Int)=>(.clean (.sl false false r.length (ab (eI .i64) r)),none):=aJ _ _ _ (p0,p1)
def uN:Env:=(Am.ext (Am.ext a7 106 false eA) 196 false jY)
theorem Qr:bA prog uN:=((bA.none.add gD false).add mu false)
theorem e7:type_of% (ai @w<|ai @db<|ai @fe<|@uN.eq_1):=⟨@w,@db,@fe,@uN.eq_1⟩
theorem VA (p0:(List Int)) (p1:(List Int)) (r:(List Int)) (hh:mV p0 p1=some r):aW .clean tab uN FU Tryz.f151 none [.sl false false p0.length (ab (eI .i64) p0),.sl false false p1.length (ab (eI .i64) p1)]=some (.clean (.sl false false r.length (ab (eI .i64) r)),none):=by
 apply aB rfl ntmps151 results151
 unfold mV at hh
 obtain⟨r1,hr1,hh⟩:=ah hh
 try simp only[e7,seval,-Int.reduceToNat,hr1]
 obtain⟨o10,ho10,hh⟩:=ah hh
 refine ay (fun s t H e=>match s with|(s6a,s13a,l5a)=>∃v5a:Nat,t 1=.sl false false p1.length (ab (eI .i64) p1)∧t 5=.buf 5 v5a 1 0 (l5a).length∧t 6=.int .i64 s6a∧t 12=.int .i64 ((r1).length:Int)∧t 13=.int .i64 s13a∧H 5=some ⟨v5a,3,ab (eI .i64) l5a,false,true,false⟩) (fun o x t H e=>match o with|l5ax=>x=.exit 0∧∃v5ax:Nat,t 5=.buf 5 v5ax 1 0 (l5ax).length∧H 5=some ⟨v5ax,3,ab (eI .i64) l5ax,false,true,false⟩) ho10 ?_ ?_ ?_
 ·refine⟨1,?_⟩
  and_intros<;>first|rfl|(simp only[e7,seval,-Int.reduceToNat,hr1]<;>rfl)
 ·rintro⟨s6a,s13a,l5a⟩ t H e ⟨v5a,Za⟩ c hh
  simp only[qQ]at hh
  try simp only[e7,seval,-Int.reduceToNat,Za]
  apply sp al hh<;>intro _ hh
  ·obtain⟨x12,hx12,hh⟩:=ah hh
   have ax12:=bm (eI .i64) hx12
   simp only[bN]at ax12
   try simp only[e7,seval,-Int.reduceToNat,Za,ax12]
   obtain⟨o13,ho13,hh⟩:=ah hh
   refine jN 0 (fun s t H e=>match s with|s8j3=>∃v5j3:Nat,t 1=.sl false false p1.length (ab (eI .i64) p1)∧t 5=.buf 5 v5j3 1 0 (l5a).length∧t 7=.int .i64 s13a∧t 8=.int .i64 s8j3∧t 12=.int .i64 ((r1).length:Int)∧t 13=.int .i64 s13a∧H 5=some ⟨v5j3,3,ab (eI .i64) l5a,false,true,false⟩) (fun s=>s=o13) ?_ ?_
   ·rintro s8j3 t H e ⟨v5j3,Zj3⟩ rfl
    try dsimp only at hh
    obtain⟨x14,hx14,hh⟩:=ah hh
    have q15:=lY hx14
    have ax12:=bm (eI .i64) hx12
    simp only[bN]at ax12
    have p16:=eZ (eI .i64) (x':=gn .and .i64 s8j3 1048575) (fo:=0) (cs:=[.int .i64 (gn .and .i64 s8j3 1048575)]) hx12 rfl (ahB rfl)
    simp only[bN,Nat.add_zero]at p16
    have up16:=p16
    simp only[putCells,List.length_cons,List.length_nil,agF]at up16
    cases hh
    try simp only[e7,seval,-Int.reduceToNat,Zj3,q15,ax12,up16]
    apply gL
    refine⟨v5j3,?_⟩
    and_intros<;>first|rfl|(simp only[e7,seval,-Int.reduceToNat,Zj3]<;>rfl)
   ·clear hh
    have hh:=ho13
    try simp only[e7,seval,-Int.reduceToNat]
    apply sp al hh<;>intro _ hh
    ·obtain⟨x18,hx18,hh⟩:=ah hh
     have ax18:=bm (eI .i64) hx18
     simp only[bN]at ax18
     cases hh
     try simp only[e7,seval,-Int.reduceToNat,Za,ax12,ax18]
     rw[an]
     refine⟨_,rfl,?_⟩
     refine⟨v5a,?_⟩
     and_intros<;>first|rfl|(simp only[e7,seval,-Int.reduceToNat,Za]<;>rfl)
    ·cases hh
     try simp only[e7,seval,-Int.reduceToNat]
     rw[an]
     refine⟨_,rfl,?_⟩
     refine⟨v5a,?_⟩
     and_intros<;>first|rfl|(simp only[e7,seval,-Int.reduceToNat,Za]<;>rfl)
  ·cases hh
   try simp only[e7,seval,-Int.reduceToNat]
   apply jr
   refine⟨rfl,⟨v5a,?_⟩⟩
   and_intros<;>first|rfl|(simp only[e7,seval,-Int.reduceToNat,Za]<;>rfl)
 ·rintro x t H e hx
  obtain⟨l5ax,rfl⟩:∃z,z=o10:=⟨_,rfl⟩
  dsimp only at hx hh
  obtain⟨rfl,⟨v5ax,Zax⟩⟩:=hx
  obtain⟨r19,hr19,hh⟩:=ah hh
  cases hh
  try simp only[e7,seval,-Int.reduceToNat,Zax,hr19]
theorem D7:bP prog 151 ud:=bP.gr (mode := .clean) tok Qr mixed func151 (by kernel_rfl) (fun _=>by kernel_rfl) (fun x r h=>VA x.1 x.2 r h)
def yN:=fb (jO (bM dx) (eU (bM dx))) (fun x:ak×ak=>qH x.1 x.2) (fun r:ak×Int =>.clean (.tup [.agg [.int .i64 r.1.ae,.sl false false r.1.aa.length (ab (eI .i64) r.1.aa)],.int .i64 r.2]))
theorem Ih (p0_0:Int) (p0_1:(List Int)) (p1_0:Int) (p1_1:(List Int)):yN none [.agg [.int .i64 p0_0,.sl false false p0_1.length (ab (eI .i64) p0_1)],.agg [.int .i64 p1_0,.sl false false p1_1.length (ab (eI .i64) p1_1)]]=(qH (ak.mk p0_0 p0_1) (ak.mk p1_0 p1_1)).map fun r:ak×Int=>(.clean (.tup [.agg [.int .i64 r.1.ae,.sl false false r.1.aa.length (ab (eI .i64) r.1.aa)],.int .i64 r.2]),none):=aJ _ _ _ ((ak.mk p0_0 p0_1),(ak.mk p1_0 p1_1))
def uE:Env:=(Am.ext (Am.ext (Am.ext (Am.ext (Am.ext (Am.ext (Am.ext a7 138 false w7) 140 false eN) 147 false fU) 148 false jB) 149 false ua) 150 false jC) 151 false ud)
theorem Qi:bA prog uE:=(((((((bA.none.add H7 false).add fp false).add im false).add ou false).add D4 false).add ov false).add D7 false)
theorem fw:type_of% (ai @w<|ai @qg<|ai @cg<|ai @dI<|ai @eM<|ai @qf<|ai @iu<|ai @u7<|@uE.eq_1):=⟨@w,@qg,@cg,@dI,@eM,@qf,@iu,@u7,@uE.eq_1⟩
theorem Vr (p0:ak) (p1:ak) (r:ak×Int) (hh:qH p0 p1=some r):aW .clean tab uE FU Tryz.f91 none [.agg [.int .i64 p0.ae,.sl false false p0.aa.length (ab (eI .i64) p0.aa)],.agg [.int .i64 p1.ae,.sl false false p1.aa.length (ab (eI .i64) p1.aa)]]=some (.clean (.tup [.agg [.int .i64 r.1.ae,.sl false false r.1.aa.length (ab (eI .i64) r.1.aa)],.int .i64 r.2]),none):=by
 apply aB rfl ntmps91 results91
 unfold qH at hh
 obtain⟨r1,hr1,hh⟩:=ah hh
 try simp only[fw,seval,hr1]
 obtain⟨o2,ho2,hh⟩:=ah hh
 refine bs 0 (fun s t H e=>match s with|s13j1=>∃v2j1:Nat,∃v3j1:Nat,∃v4j1:Nat,t 2=.ptr 2 v2j1 0∧t 3=.ptr 3 v3j1 0∧t 4=.ptr 4 v4j1 0∧t 13=.bool s13j1∧H 2=some ⟨v2j1,40,[.int .i64 p0.ae,.sl false false p0.aa.length (ab (eI .i64) p0.aa)],false,false,false⟩∧H 3=some ⟨v3j1,40,[.int .i64 p1.ae,.sl false false p1.aa.length (ab (eI .i64) p1.aa)],false,false,false⟩∧H 4=some ⟨v4j1,40,[.int .i64 0,.sl true true 0 []],false,false,false⟩) (fun s=>s=o2) ?_ ?_
 ·rintro s13j1 t H e ⟨v2j1,v3j1,v4j1,Zj1⟩ rfl
  try dsimp only at hh
  try simp only[fw,seval,Zj1]
  apply sp al hh<;>intro _ hh
  ·have i4:=eM false 0 ([])
   simp only[bN]at i4
   obtain⟨r5,hr5,hh⟩:=ah hh
   cases hh
   try simp only[fw,seval,Zj1,i4,hr5]
  ·try simp only[fw,seval,Zj1]
   apply sp al hh<;>intro _ hh
   ·have i7:=qg ([p0.ae,p1.ae])
    simp only[bo,bN,List.length_cons,agF,Nat.reduceAdd]at i7
    obtain⟨r8,hr8,hh⟩:=ah hh
    obtain⟨r9,hr9,hh⟩:=ah hh
    obtain⟨r10,hr10,hh⟩:=ah hh
    obtain⟨r11,hr11,hh⟩:=ah hh
    try simp only[fw,seval,Zj1,i7,hr8,hr9,hr10,hr11]
    refine bt (by kernel_rfl) ?_
    cases hh
    try simp only[seval]
   ·obtain⟨r12,hr12,hh⟩:=ah hh
    try simp only[fw,seval,Zj1,hr12]
    apply sp al hh<;>intro _ hh
    ·obtain⟨r14,hr14,hh⟩:=ah hh
     obtain⟨r15,hr15,hh⟩:=ah hh
     obtain⟨r16,hr16,hh⟩:=ah hh
     try simp only[fw,seval,Zj1,hr14,hr15,hr16]
     refine bt (by kernel_rfl) ?_
     cases hh
     try simp only[seval]
    ·obtain⟨r17,hr17,hh⟩:=ah hh
     obtain⟨r18,hr18,hh⟩:=ah hh
     obtain⟨r19,hr19,hh⟩:=ah hh
     try simp only[fw,seval,Zj1,hr17,hr18,hr19]
     refine bt (by kernel_rfl) ?_
     cases hh
     try simp only[seval]
 ·clear hh
  have hh:=ho2
  try simp only[fw,seval]
  apply sp aN hh<;>intro _ hh
  ·cases hh
   try simp only[fw,seval]
   rw[an]
   refine⟨_,rfl,?_⟩
   refine⟨0,0,0,?_⟩
   and_intros<;>first|rfl|(simp only[fw,seval,hr1]<;>rfl)
  ·obtain⟨r21,hr21,hh⟩:=ah hh
   cases hh
   try simp only[fw,seval,hr21]
   rw[an]
   refine⟨_,rfl,?_⟩
   refine⟨0,0,0,?_⟩
   and_intros<;>first|rfl|(simp only[fw,seval,hr1,hr21]<;>rfl)
theorem Q4:bP prog 91 yN:=bP.gr (mode := .clean) tok Qi mixed func91 (by kernel_rfl) (fun _=>by kernel_rfl) (fun x r h=>Vr x.1 x.2 r h)
def tZ:=fb (eU (bM dx)) (fun x:ak=>lL x) (fun r:ak =>.clean (.agg [.int .i64 r.ae,.sl false false r.aa.length (ab (eI .i64) r.aa)]))
theorem u5 (p0_0:Int) (p0_1:(List Int)):tZ none [.agg [.int .i64 p0_0,.sl false false p0_1.length (ab (eI .i64) p0_1)]]=(lL (ak.mk p0_0 p0_1)).map fun r:ak=>(.clean (.agg [.int .i64 r.ae,.sl false false r.aa.length (ab (eI .i64) r.aa)]),none):=aJ _ _ _ ((ak.mk p0_0 p0_1))
def uJ:Env:=(Am.ext (Am.ext (Am.ext a7 106 false eA) 140 false eN) 147 false fU)
theorem Qn:bA prog uJ:=(((bA.none.add gD false).add fp false).add im false)
theorem zF:type_of% (ai @w<|ai @db<|ai @cg<|ai @dI<|@uJ.eq_1):=⟨@w,@db,@cg,@dI,@uJ.eq_1⟩
theorem Vw (p0:ak) (r:ak) (hh:lL p0=some r):aW .clean tab uJ FU Tryz.f90 none [.agg [.int .i64 p0.ae,.sl false false p0.aa.length (ab (eI .i64) p0.aa)]]=some (.clean (.agg [.int .i64 r.ae,.sl false false r.aa.length (ab (eI .i64) r.aa)]),none):=by
 apply aB rfl ntmps90 results90
 unfold lL at hh
 obtain⟨r1,hr1,hh⟩:=ah hh
 try simp only[zF,seval,hr1]
 apply sp al hh<;>intro _ hh
 ·cases hh
  try simp only[zF,seval]
 ·obtain⟨r3,hr3,hh⟩:=ah hh
  obtain⟨r4,hr4,hh⟩:=ah hh
  try simp only[zF,seval,hr3,hr4]
  refine bt (by kernel_rfl) ?_
  cases hh
  try simp only[seval]
theorem D3:bP prog 90 tZ:=bP.gr (mode := .clean) tok Qn mixed func90 (by kernel_rfl) (fun _=>by kernel_rfl) (fun x r h=>Vw x r h)
def yO:=fb (jO (bM dx) (eU (bM dx))) (fun x:ak×ak=>lK x.1 x.2) (fun r:ak×ak×Int =>.clean (.tup [.agg [.int .i64 r.1.ae,.sl false false r.1.aa.length (ab (eI .i64) r.1.aa)],.agg [.int .i64 r.2.1.ae,.sl false false r.2.1.aa.length (ab (eI .i64) r.2.1.aa)],.int .i64 r.2.2]))
theorem Ii (p0_0:Int) (p0_1:(List Int)) (p1_0:Int) (p1_1:(List Int)):yO none [.agg [.int .i64 p0_0,.sl false false p0_1.length (ab (eI .i64) p0_1)],.agg [.int .i64 p1_0,.sl false false p1_1.length (ab (eI .i64) p1_1)]]=(lK (ak.mk p0_0 p0_1) (ak.mk p1_0 p1_1)).map fun r:ak×ak×Int=>(.clean (.tup [.agg [.int .i64 r.1.ae,.sl false false r.1.aa.length (ab (eI .i64) r.1.aa)],.agg [.int .i64 r.2.1.ae,.sl false false r.2.1.aa.length (ab (eI .i64) r.2.1.aa)],.int .i64 r.2.2]),none):=aJ _ _ _ ((ak.mk p0_0 p0_1),(ak.mk p1_0 p1_1))
def uF:Env:=(Am.ext (Am.ext (Am.ext (Am.ext (Am.ext a7 140 false eN) 147 false fU) 149 false ua) 151 false ud) 191 false ub)
theorem Qj:bA prog uF:=(((((bA.none.add fp false).add im false).add D4 false).add D7 false).add D5 false)
theorem dp:type_of% (ai @w<|ai @cg<|ai @dI<|ai @qf<|ai @u7<|ai @u6<|@uF.eq_1):=⟨@w,@cg,@dI,@qf,@u7,@u6,@uF.eq_1⟩
theorem Vs (p0:ak) (p1:ak) (r:ak×ak×Int) (hh:lK p0 p1=some r):aW .clean tab uF FU Tryz.f153 none [.agg [.int .i64 p0.ae,.sl false false p0.aa.length (ab (eI .i64) p0.aa)],.agg [.int .i64 p1.ae,.sl false false p1.aa.length (ab (eI .i64) p1.aa)]]=some (.clean (.tup [.agg [.int .i64 r.1.ae,.sl false false r.1.aa.length (ab (eI .i64) r.1.aa)],.agg [.int .i64 r.2.1.ae,.sl false false r.2.1.aa.length (ab (eI .i64) r.2.1.aa)],.int .i64 r.2.2]),none):=by
 apply aB rfl ntmps153 results153
 unfold lK at hh
 obtain⟨r1,hr1,hh⟩:=ah hh
 try simp only[dp,seval,hr1]
 obtain⟨o2,ho2,hh⟩:=ah hh
 refine bs 0 (fun s t H e=>match s with|s9j1=>∃v2j1:Nat,∃v3j1:Nat,∃v4j1:Nat,∃v5j1:Nat,t 2=.ptr 2 v2j1 0∧t 3=.ptr 3 v3j1 0∧t 4=.ptr 4 v4j1 0∧t 5=.ptr 5 v5j1 0∧t 9=.bool s9j1∧H 2=some ⟨v2j1,40,[.int .i64 p0.ae,.sl false false p0.aa.length (ab (eI .i64) p0.aa)],false,false,false⟩∧H 3=some ⟨v3j1,40,[.int .i64 p1.ae,.sl false false p1.aa.length (ab (eI .i64) p1.aa)],false,false,false⟩∧H 4=some ⟨v4j1,40,[.int .i64 0,.sl true true 0 []],false,false,false⟩∧H 5=some ⟨v5j1,40,[.int .i64 0,.sl true true 0 []],false,false,false⟩) (fun s=>s=o2) ?_ ?_
 ·rintro s9j1 t H e ⟨v2j1,v3j1,v4j1,v5j1,Zj1⟩ rfl
  try dsimp only at hh
  try simp only[dp,seval,Zj1]
  apply sp al hh<;>intro _ hh
  ·cases hh
   try simp only[dp,seval,Zj1]
  ·try simp only[dp,seval,Zj1]
   apply sp al hh<;>intro _ hh
   ·cases hh
    try simp only[dp,seval,Zj1]
   ·obtain⟨r5,hr5,hh⟩:=ah hh
    try simp only[dp,seval,Zj1,hr5]
    obtain⟨o6,ho6,hh⟩:=ah hh
    refine bs 0 (fun s t H e=>match s with|s44j2=>∃v2j2:Nat,∃v3j2:Nat,∃v4j2:Nat,∃v5j2:Nat,t 2=.ptr 2 v2j2 0∧t 3=.ptr 3 v3j2 0∧t 4=.ptr 4 v4j2 0∧t 5=.ptr 5 v5j2 0∧t 7=.sl false false r5.1.length (ab (eI .i64) r5.1)∧t 8=.sl false false r5.2.length (ab (eI .i64) r5.2)∧t 44=.bool s44j2∧H 2=some ⟨v2j2,40,[.int .i64 p0.ae,.sl false false p0.aa.length (ab (eI .i64) p0.aa)],false,false,false⟩∧H 3=some ⟨v3j2,40,[.int .i64 p1.ae,.sl false false p1.aa.length (ab (eI .i64) p1.aa)],false,false,false⟩∧H 4=some ⟨v4j2,40,[.int .i64 0,.sl true true 0 []],false,false,false⟩∧H 5=some ⟨v5j2,40,[.int .i64 0,.sl true true 0 []],false,false,false⟩) (fun s=>s=o6) ?_ ?_
    ·rintro s44j2 t H e ⟨v2j2,v3j2,v4j2,v5j2,Zj2⟩ rfl
     try dsimp only at hh
     try simp only[dp,seval,Zj2]
     apply sp al hh<;>intro _ hh
     ·have i8:=qf r5.1 ([1])
      simp only[bo,bN,List.length_cons,agF]at i8
      obtain⟨r9,hr9,hh⟩:=ah hh
      obtain⟨r10,hr10,hh⟩:=ah hh
      obtain⟨r11,hr11,hh⟩:=ah hh
      obtain⟨r12,hr12,hh⟩:=ah hh
      try simp only[dp,seval,Zj2,i8,hr9,hr10,hr11,hr12]
      refine bt (by kernel_rfl) ?_
      cases hh
      try simp only[seval]
     ·obtain⟨r13,hr13,hh⟩:=ah hh
      obtain⟨r14,hr14,hh⟩:=ah hh
      try simp only[dp,seval,Zj2,hr13,hr14]
      refine bt (by kernel_rfl) ?_
      cases hh
      try simp only[seval]
    ·clear hh
     have hh:=ho6
     try simp only[dp,seval]
     apply sp cY hh<;>intro _ hh
     ·cases hh
      try simp only[dp,seval]
      rw[an]
      refine⟨_,rfl,?_⟩
      refine⟨v2j1,v3j1,v4j1,v5j1,?_⟩
      and_intros<;>first|rfl|(simp only[dp,seval,Zj1]<;>rfl)
     ·cases hh
      try simp only[dp,seval]
      rw[an]
      refine⟨_,rfl,?_⟩
      refine⟨v2j1,v3j1,v4j1,v5j1,?_⟩
      and_intros<;>first|rfl|(simp only[dp,seval,Zj1]<;>rfl)
 ·clear hh
  have hh:=ho2
  try simp only[dp,seval]
  apply sp aN hh<;>intro _ hh
  ·cases hh
   try simp only[dp,seval]
   rw[an]
   refine⟨_,rfl,?_⟩
   refine⟨0,0,0,0,?_⟩
   and_intros<;>first|rfl|(simp only[dp,seval,hr1]<;>rfl)
  ·obtain⟨r17,hr17,hh⟩:=ah hh
   cases hh
   try simp only[dp,seval,hr17]
   rw[an]
   refine⟨_,rfl,?_⟩
   refine⟨0,0,0,0,?_⟩
   and_intros<;>first|rfl|(simp only[dp,seval,hr1,hr17]<;>rfl)
theorem Q5:bP prog 153 yO:=bP.gr (mode := .clean) tok Qj mixed func153 (by kernel_rfl) (fun _=>by kernel_rfl) (fun x r h=>Vs x.1 x.2 r h)
def nJ:=fb (jO (bM dx) (eU (bM dx))) (fun x:ak×ak=>kQ x.1 x.2) (fun r:ao×Int =>.clean (.tup [.agg [.int .i64 r.1.aZ.ae,.sl false false r.1.aZ.aa.length (ab (eI .i64) r.1.aZ.aa),.int .i64 r.1.aY.ae,.sl false false r.1.aY.aa.length (ab (eI .i64) r.1.aY.aa)],.int .i64 r.2]))
theorem lD (p0_0:Int) (p0_1:(List Int)) (p1_0:Int) (p1_1:(List Int)):nJ none [.agg [.int .i64 p0_0,.sl false false p0_1.length (ab (eI .i64) p0_1)],.agg [.int .i64 p1_0,.sl false false p1_1.length (ab (eI .i64) p1_1)]]=(kQ (ak.mk p0_0 p0_1) (ak.mk p1_0 p1_1)).map fun r:ao×Int=>(.clean (.tup [.agg [.int .i64 r.1.aZ.ae,.sl false false r.1.aZ.aa.length (ab (eI .i64) r.1.aZ.aa),.int .i64 r.1.aY.ae,.sl false false r.1.aY.aa.length (ab (eI .i64) r.1.aY.aa)],.int .i64 r.2]),none):=aJ _ _ _ ((ak.mk p0_0 p0_1),(ak.mk p1_0 p1_1))
def qY:Env:=(Am.ext (Am.ext (Am.ext (Am.ext a7 90 false tZ) 140 false eN) 141 false tY) 153 false yO)
theorem MD:bA prog qY:=((((bA.none.add D3 false).add fp false).add D2 false).add Q5 false)
theorem cL:type_of% (ai @w<|ai @u5<|ai @cg<|ai @u4<|ai @Ii<|@qY.eq_1):=⟨@w,@u5,@cg,@u4,@Ii,@qY.eq_1⟩
theorem QM (p0:ak) (p1:ak) (r:ao×Int) (hh:kQ p0 p1=some r):aW .clean tab qY FU Tryz.f93 none [.agg [.int .i64 p0.ae,.sl false false p0.aa.length (ab (eI .i64) p0.aa)],.agg [.int .i64 p1.ae,.sl false false p1.aa.length (ab (eI .i64) p1.aa)]]=some (.clean (.tup [.agg [.int .i64 r.1.aZ.ae,.sl false false r.1.aZ.aa.length (ab (eI .i64) r.1.aZ.aa),.int .i64 r.1.aY.ae,.sl false false r.1.aY.aa.length (ab (eI .i64) r.1.aY.aa)],.int .i64 r.2]),none):=by
 apply aB rfl ntmps93 results93
 unfold kQ at hh
 obtain⟨r1,hr1,hh⟩:=ah hh
 try simp only[cL,seval,hr1]
 obtain⟨o2,ho2,hh⟩:=ah hh
 refine bs 0 (fun s t H e=>match s with|s14j1=>∃v2j1:Nat,∃v3j1:Nat,∃v4j1:Nat,t 2=.ptr 2 v2j1 0∧t 3=.ptr 3 v3j1 0∧t 4=.ptr 4 v4j1 0∧t 14=.bool s14j1∧H 2=some ⟨v2j1,40,[.int .i64 p0.ae,.sl false false p0.aa.length (ab (eI .i64) p0.aa)],false,false,false⟩∧H 3=some ⟨v3j1,40,[.int .i64 p1.ae,.sl false false p1.aa.length (ab (eI .i64) p1.aa)],false,false,false⟩∧H 4=some ⟨v4j1,42,[.int .i64 0,.sl true true 0 [],.int .i64 0,.sl true true 0 []],false,false,false⟩) (fun s=>s=o2) ?_ ?_
 ·rintro s14j1 t H e ⟨v2j1,v3j1,v4j1,Zj1⟩ rfl
  try dsimp only at hh
  try simp only[cL,seval,Zj1]
  apply sp al hh<;>intro _ hh
  ·cases hh
   try simp only[cL,seval,Zj1]
  ·try simp only[cL,seval,Zj1]
   apply sp al hh<;>intro _ hh
   ·cases hh
    try simp only[cL,seval,Zj1]
   ·try simp only[cL,seval,Zj1]
    obtain⟨o5,ho5,hh⟩:=ah hh
    refine jN 0 (fun s t H e=>match s with|(r2_0j2,r2_1j2,r3_0j2,r3_1j2)=>∃v2j2:Nat,∃v3j2:Nat,∃v4j2:Nat,t 2=.ptr 2 v2j2 0∧t 3=.ptr 3 v3j2 0∧t 4=.ptr 4 v4j2 0∧H 2=some ⟨v2j2,40,[.int .i64 r2_0j2,.sl false false r2_1j2.length (ab (eI .i64) r2_1j2)],false,false,false⟩∧H 3=some ⟨v3j2,40,[.int .i64 r3_0j2,.sl false false r3_1j2.length (ab (eI .i64) r3_1j2)],false,false,false⟩∧H 4=some ⟨v4j2,42,[.int .i64 0,.sl true true 0 [],.int .i64 0,.sl true true 0 []],false,false,false⟩) (fun s=>s=o5) ?_ ?_
    ·rintro⟨r2_0j2,r2_1j2,r3_0j2,r3_1j2⟩ t H e ⟨v2j2,v3j2,v4j2,Zj2⟩ rfl
     try dsimp only at hh
     obtain⟨r6,hr6,hh⟩:=ah hh
     obtain⟨r7,hr7,hh⟩:=ah hh
     obtain⟨r8,hr8,hh⟩:=ah hh
     cases hh
     try simp only[cL,seval,Zj2,hr6,hr7,hr8]
    ·clear hh
     have hh:=ho5
     try simp only[cL,seval]
     apply sp al hh<;>intro _ hh
     ·obtain⟨r10,hr10,hh⟩:=ah hh
      obtain⟨r11,hr11,hh⟩:=ah hh
      try simp only[cL,seval,Zj1,hr10,hr11]
      refine bt (by kernel_rfl) ?_
      cases hh
      try simp only[cL,seval,hr1,Zj1,hr10,hr11]
      rw[an]
      refine⟨_,rfl,?_⟩
      refine⟨v2j1,v3j1,v4j1,?_⟩
      and_intros<;>first|rfl|(simp only[cL,seval,Zj1]<;>rfl)
     ·cases hh
      try simp only[cL,seval]
      rw[an]
      refine⟨_,rfl,?_⟩
      refine⟨v2j1,v3j1,v4j1,?_⟩
      and_intros<;>first|rfl|(simp only[cL,seval,Zj1]<;>rfl)
 ·clear hh
  have hh:=ho2
  try simp only[cL,seval]
  apply sp aN hh<;>intro _ hh
  ·cases hh
   try simp only[cL,seval]
   rw[an]
   refine⟨_,rfl,?_⟩
   refine⟨0,0,0,?_⟩
   and_intros<;>first|rfl|(simp only[cL,seval,hr1]<;>rfl)
  ·obtain⟨r13,hr13,hh⟩:=ah hh
   cases hh
   try simp only[cL,seval,hr13]
   rw[an]
   refine⟨_,rfl,?_⟩
   refine⟨0,0,0,?_⟩
   and_intros<;>first|rfl|(simp only[cL,seval,hr1,hr13]<;>rfl)
theorem tH:bP prog 93 nJ:=bP.gr (mode := .clean) tok MD mixed func93 (by kernel_rfl) (fun _=>by kernel_rfl) (fun x r h=>QM x.1 x.2 r h)
def qq:=fb (jO (bM aC) (eU (bM aC))) (fun x:ao×ao=>mj x.1 x.2) (fun r:ao×Int =>.clean (.tup [.agg [.int .i64 r.1.aZ.ae,.sl false false r.1.aZ.aa.length (ab (eI .i64) r.1.aZ.aa),.int .i64 r.1.aY.ae,.sl false false r.1.aY.aa.length (ab (eI .i64) r.1.aY.aa)],.int .i64 r.2]))
theorem rH (p0_0:Int) (p0_1:(List Int)) (p0_2:Int) (p0_3:(List Int)) (p1_0:Int) (p1_1:(List Int)) (p1_2:Int) (p1_3:(List Int)):qq none [.agg [.int .i64 p0_0,.sl false false p0_1.length (ab (eI .i64) p0_1),.int .i64 p0_2,.sl false false p0_3.length (ab (eI .i64) p0_3)],.agg [.int .i64 p1_0,.sl false false p1_1.length (ab (eI .i64) p1_1),.int .i64 p1_2,.sl false false p1_3.length (ab (eI .i64) p1_3)]]=(mj (ao.mk (ak.mk p0_0 p0_1) (ak.mk p0_2 p0_3)) (ao.mk (ak.mk p1_0 p1_1) (ak.mk p1_2 p1_3))).map fun r:ao×Int=>(.clean (.tup [.agg [.int .i64 r.1.aZ.ae,.sl false false r.1.aZ.aa.length (ab (eI .i64) r.1.aZ.aa),.int .i64 r.1.aY.ae,.sl false false r.1.aY.aa.length (ab (eI .i64) r.1.aY.aa)],.int .i64 r.2]),none):=aJ _ _ _ ((ao.mk (ak.mk p0_0 p0_1) (ak.mk p0_2 p0_3)),(ao.mk (ak.mk p1_0 p1_1) (ak.mk p1_2 p1_3)))
def qV:Env:=(Am.ext (Am.ext (Am.ext (Am.ext a7 83 false fk) 91 false yN) 92 false kH) 93 false nJ)
theorem MA:bA prog qV:=((((bA.none.add gu false).add Q4 false).add pJ false).add tH false)
theorem gw:type_of% (ai @w<|ai @cO<|ai @Ih<|ai @jj<|ai @lD<|@qV.eq_1):=⟨@w,@cO,@Ih,@jj,@lD,@qV.eq_1⟩
theorem QJ (p0:ao) (p1:ao) (r:ao×Int) (hh:mj p0 p1=some r):aW .clean tab qV FU Tryz.f36 none [.agg [.int .i64 p0.aZ.ae,.sl false false p0.aZ.aa.length (ab (eI .i64) p0.aZ.aa),.int .i64 p0.aY.ae,.sl false false p0.aY.aa.length (ab (eI .i64) p0.aY.aa)],.agg [.int .i64 p1.aZ.ae,.sl false false p1.aZ.aa.length (ab (eI .i64) p1.aZ.aa),.int .i64 p1.aY.ae,.sl false false p1.aY.aa.length (ab (eI .i64) p1.aY.aa)]]=some (.clean (.tup [.agg [.int .i64 r.1.aZ.ae,.sl false false r.1.aZ.aa.length (ab (eI .i64) r.1.aZ.aa),.int .i64 r.1.aY.ae,.sl false false r.1.aY.aa.length (ab (eI .i64) r.1.aY.aa)],.int .i64 r.2]),none):=by
 apply aB rfl ntmps36 results36
 unfold mj at hh
 obtain⟨r1,hr1,hh⟩:=ah hh
 try simp only[gw,seval,hr1]
 obtain⟨o2,ho2,hh⟩:=ah hh
 refine bs 0 (fun s t H e=>match s with|s15j1=>∃v2j1:Nat,∃v3j1:Nat,∃v4j1:Nat,t 2=.ptr 2 v2j1 0∧t 3=.ptr 3 v3j1 0∧t 4=.ptr 4 v4j1 0∧t 15=.bool s15j1∧H 2=some ⟨v2j1,42,[.int .i64 p0.aZ.ae,.sl false false p0.aZ.aa.length (ab (eI .i64) p0.aZ.aa),.int .i64 p0.aY.ae,.sl false false p0.aY.aa.length (ab (eI .i64) p0.aY.aa)],false,false,false⟩∧H 3=some ⟨v3j1,42,[.int .i64 p1.aZ.ae,.sl false false p1.aZ.aa.length (ab (eI .i64) p1.aZ.aa),.int .i64 p1.aY.ae,.sl false false p1.aY.aa.length (ab (eI .i64) p1.aY.aa)],false,false,false⟩∧H 4=some ⟨v4j1,42,[.int .i64 0,.sl true true 0 [],.int .i64 0,.sl true true 0 []],false,false,false⟩) (fun s=>s=o2) ?_ ?_
 ·rintro s15j1 t H e ⟨v2j1,v3j1,v4j1,Zj1⟩ rfl
  try dsimp only at hh
  try simp only[gw,seval,Zj1]
  apply sp al hh<;>intro _ hh
  ·cases hh
   try simp only[gw,seval,Zj1]
  ·obtain⟨r4,hr4,hh⟩:=ah hh
   obtain⟨r5,hr5,hh⟩:=ah hh
   obtain⟨r6,hr6,hh⟩:=ah hh
   try simp only[gw,seval,Zj1,hr4,hr5,hr6]
   refine bt (by kernel_rfl) ?_
   obtain⟨r7,hr7,hh⟩:=ah hh
   obtain⟨r8,hr8,hh⟩:=ah hh
   try simp only[gw,seval,Zj1,hr7,hr8]
   refine bt (by kernel_rfl) ?_
   cases hh
   try simp only[seval]
 ·clear hh
  have hh:=ho2
  try simp only[gw,seval]
  apply sp aN hh<;>intro _ hh
  ·cases hh
   try simp only[gw,seval]
   rw[an]
   refine⟨_,rfl,?_⟩
   refine⟨0,0,0,?_⟩
   and_intros<;>first|rfl|(simp only[gw,seval,hr1]<;>rfl)
  ·obtain⟨r10,hr10,hh⟩:=ah hh
   cases hh
   try simp only[gw,seval,hr10]
   rw[an]
   refine⟨_,rfl,?_⟩
   refine⟨0,0,0,?_⟩
   and_intros<;>first|rfl|(simp only[gw,seval,hr1,hr10]<;>rfl)
theorem AE:bP prog 36 qq:=bP.gr (mode := .clean) tok MA mixed func36 (by kernel_rfl) (fun _=>by kernel_rfl) (fun x r h=>QJ x.1 x.2 r h)
def ue:=fb (jO (bM aC) (eU (bM aC))) (fun x:ao×ao=>u3 x.1 x.2) (fun r:ao =>.clean (.agg [.int .i64 r.aZ.ae,.sl false false r.aZ.aa.length (ab (eI .i64) r.aZ.aa),.int .i64 r.aY.ae,.sl false false r.aY.aa.length (ab (eI .i64) r.aY.aa)]))
theorem u9 (p0_0:Int) (p0_1:(List Int)) (p0_2:Int) (p0_3:(List Int)) (p1_0:Int) (p1_1:(List Int)) (p1_2:Int) (p1_3:(List Int)):ue none [.agg [.int .i64 p0_0,.sl false false p0_1.length (ab (eI .i64) p0_1),.int .i64 p0_2,.sl false false p0_3.length (ab (eI .i64) p0_3)],.agg [.int .i64 p1_0,.sl false false p1_1.length (ab (eI .i64) p1_1),.int .i64 p1_2,.sl false false p1_3.length (ab (eI .i64) p1_3)]]=(u3 (ao.mk (ak.mk p0_0 p0_1) (ak.mk p0_2 p0_3)) (ao.mk (ak.mk p1_0 p1_1) (ak.mk p1_2 p1_3))).map fun r:ao=>(.clean (.agg [.int .i64 r.aZ.ae,.sl false false r.aZ.aa.length (ab (eI .i64) r.aZ.aa),.int .i64 r.aY.ae,.sl false false r.aY.aa.length (ab (eI .i64) r.aY.aa)]),none):=aJ _ _ _ ((ao.mk (ak.mk p0_0 p0_1) (ak.mk p0_2 p0_3)),(ao.mk (ak.mk p1_0 p1_1) (ak.mk p1_2 p1_3)))
def uP:Env:=(Am.ext a7 36 false qq)
theorem Qt:bA prog uP:=(bA.none.add AE false)
theorem Wl:type_of% (ai @w<|ai @rH<|@uP.eq_1):=⟨@w,@rH,@uP.eq_1⟩
theorem VC (p0:ao) (p1:ao) (r:ao) (hh:u3 p0 p1=some r):aW .clean tab uP FU Tryz.f135 none [.agg [.int .i64 p0.aZ.ae,.sl false false p0.aZ.aa.length (ab (eI .i64) p0.aZ.aa),.int .i64 p0.aY.ae,.sl false false p0.aY.aa.length (ab (eI .i64) p0.aY.aa)],.agg [.int .i64 p1.aZ.ae,.sl false false p1.aZ.aa.length (ab (eI .i64) p1.aZ.aa),.int .i64 p1.aY.ae,.sl false false p1.aY.aa.length (ab (eI .i64) p1.aY.aa)]]=some (.clean (.agg [.int .i64 r.aZ.ae,.sl false false r.aZ.aa.length (ab (eI .i64) r.aZ.aa),.int .i64 r.aY.ae,.sl false false r.aY.aa.length (ab (eI .i64) r.aY.aa)]),none):=by
 apply aB rfl ntmps135 results135
 unfold u3 at hh
 obtain⟨r1,hr1,hh⟩:=ah hh
 cases hh
 try simp only[Wl,seval,hr1]
theorem Ea:bP prog 135 ue:=bP.gr (mode := .clean) tok Qt mixed func135 (by kernel_rfl) (fun _=>by kernel_rfl) (fun x r h=>VC x.1 x.2 r h)
def pr:=fb (jO (bM dx) (eU (bM dx))) (fun x:ak×ak=>l9 x.1 x.2) (fun r:Int =>.clean (.int .i64 r))
theorem vW (p0_0:Int) (p0_1:(List Int)) (p1_0:Int) (p1_1:(List Int)):pr none [.agg [.int .i64 p0_0,.sl false false p0_1.length (ab (eI .i64) p0_1)],.agg [.int .i64 p1_0,.sl false false p1_1.length (ab (eI .i64) p1_1)]]=(l9 (ak.mk p0_0 p0_1) (ak.mk p1_0 p1_1)).map fun r:Int=>(.clean (.int .i64 r),none):=aJ _ _ _ ((ak.mk p0_0 p0_1),(ak.mk p1_0 p1_1))
def lN:Env:=(Am.ext (Am.ext (Am.ext a7 139 false jD) 140 false eN) 150 false jC)
theorem Da:bA prog lN:=(((bA.none.add ow false).add fp false).add ov false)
theorem dE:type_of% (ai @w<|ai @iw<|ai @cg<|ai @iu<|@lN.eq_1):=⟨@w,@iw,@cg,@iu,@lN.eq_1⟩
theorem Fz (p0:ak) (p1:ak) (r:Int) (hh:l9 p0 p1=some r):aW .clean tab lN FU Tryz.f108 none [.agg [.int .i64 p0.ae,.sl false false p0.aa.length (ab (eI .i64) p0.aa)],.agg [.int .i64 p1.ae,.sl false false p1.aa.length (ab (eI .i64) p1.aa)]]=some (.clean (.int .i64 r),none):=by
 apply aB rfl ntmps108 results108
 unfold l9 at hh
 obtain⟨r1,hr1,hh⟩:=ah hh
 try simp only[dE,seval,hr1]
 obtain⟨o2,ho2,hh⟩:=ah hh
 refine bs 0 (fun s t H e=>match s with|s12j1=>∃v2j1:Nat,∃v3j1:Nat,t 2=.ptr 2 v2j1 0∧t 3=.ptr 3 v3j1 0∧t 12=.bool s12j1∧H 2=some ⟨v2j1,40,[.int .i64 p0.ae,.sl false false p0.aa.length (ab (eI .i64) p0.aa)],false,false,false⟩∧H 3=some ⟨v3j1,40,[.int .i64 p1.ae,.sl false false p1.aa.length (ab (eI .i64) p1.aa)],false,false,false⟩) (fun s=>s=o2) ?_ ?_
 ·rintro s12j1 t H e ⟨v2j1,v3j1,Zj1⟩ rfl
  try dsimp only at hh
  try simp only[dE,seval,Zj1]
  apply sp al hh<;>intro _ hh
  ·cases hh
   try simp only[dE,seval]
  ·try simp only[dE,seval,Zj1]
   apply sp al hh<;>intro _ hh
   ·obtain⟨r5,hr5,hh⟩:=ah hh
    cases hh
    try simp only[dE,seval,Zj1,hr5]
   ·obtain⟨r6,hr6,hh⟩:=ah hh
    try simp only[dE,seval,Zj1,hr6]
    refine bt (by kernel_rfl) ?_
    cases hh
    try simp only[seval]
 ·clear hh
  have hh:=ho2
  try simp only[dE,seval]
  apply sp aN hh<;>intro _ hh
  ·cases hh
   try simp only[dE,seval]
   rw[an]
   refine⟨_,rfl,?_⟩
   refine⟨0,0,?_⟩
   and_intros<;>first|rfl|(simp only[dE,seval,hr1]<;>rfl)
  ·obtain⟨r8,hr8,hh⟩:=ah hh
   cases hh
   try simp only[dE,seval,hr8]
   rw[an]
   refine⟨_,rfl,?_⟩
   refine⟨0,0,?_⟩
   and_intros<;>first|rfl|(simp only[dE,seval,hr1,hr8]<;>rfl)
theorem D1:bP prog 108 pr:=bP.gr (mode := .clean) tok Da mixed func108 (by kernel_rfl) (fun _=>by kernel_rfl) (fun x r h=>Fz x.1 x.2 r h)
def nI:=fb (jO (bM aC) (eU (bM aC))) (fun x:ao×ao=>kP x.1 x.2) (fun r:Int =>.clean (.int .i64 r))
theorem tL (p0_0:Int) (p0_1:(List Int)) (p0_2:Int) (p0_3:(List Int)) (p1_0:Int) (p1_1:(List Int)) (p1_2:Int) (p1_3:(List Int)):nI none [.agg [.int .i64 p0_0,.sl false false p0_1.length (ab (eI .i64) p0_1),.int .i64 p0_2,.sl false false p0_3.length (ab (eI .i64) p0_3)],.agg [.int .i64 p1_0,.sl false false p1_1.length (ab (eI .i64) p1_1),.int .i64 p1_2,.sl false false p1_3.length (ab (eI .i64) p1_3)]]=(kP (ao.mk (ak.mk p0_0 p0_1) (ak.mk p0_2 p0_3)) (ao.mk (ak.mk p1_0 p1_1) (ak.mk p1_2 p1_3))).map fun r:Int=>(.clean (.int .i64 r),none):=aJ _ _ _ ((ao.mk (ak.mk p0_0 p0_1) (ak.mk p0_2 p0_3)),(ao.mk (ak.mk p1_0 p1_1) (ak.mk p1_2 p1_3)))
def kR:Env:=(Am.ext (Am.ext (Am.ext a7 83 false fk) 92 false kH) 108 false pr)
theorem Bf:bA prog kR:=(((bA.none.add gu false).add pJ false).add D1 false)
theorem ef:type_of% (ai @w<|ai @cO<|ai @jj<|ai @vW<|@kR.eq_1):=⟨@w,@cO,@jj,@vW,@kR.eq_1⟩
theorem DH (p0:ao) (p1:ao) (r:Int) (hh:kP p0 p1=some r):aW .clean tab kR FU Tryz.f51 none [.agg [.int .i64 p0.aZ.ae,.sl false false p0.aZ.aa.length (ab (eI .i64) p0.aZ.aa),.int .i64 p0.aY.ae,.sl false false p0.aY.aa.length (ab (eI .i64) p0.aY.aa)],.agg [.int .i64 p1.aZ.ae,.sl false false p1.aZ.aa.length (ab (eI .i64) p1.aZ.aa),.int .i64 p1.aY.ae,.sl false false p1.aY.aa.length (ab (eI .i64) p1.aY.aa)]]=some (.clean (.int .i64 r),none):=by
 apply aB rfl ntmps51 results51
 unfold kP at hh
 obtain⟨r1,hr1,hh⟩:=ah hh
 try simp only[ef,seval,hr1]
 obtain⟨o2,ho2,hh⟩:=ah hh
 refine bs 0 (fun s t H e=>match s with|s12j1=>∃v2j1:Nat,∃v3j1:Nat,t 2=.ptr 2 v2j1 0∧t 3=.ptr 3 v3j1 0∧t 12=.bool s12j1∧H 2=some ⟨v2j1,42,[.int .i64 p0.aZ.ae,.sl false false p0.aZ.aa.length (ab (eI .i64) p0.aZ.aa),.int .i64 p0.aY.ae,.sl false false p0.aY.aa.length (ab (eI .i64) p0.aY.aa)],false,false,false⟩∧H 3=some ⟨v3j1,42,[.int .i64 p1.aZ.ae,.sl false false p1.aZ.aa.length (ab (eI .i64) p1.aZ.aa),.int .i64 p1.aY.ae,.sl false false p1.aY.aa.length (ab (eI .i64) p1.aY.aa)],false,false,false⟩) (fun s=>s=o2) ?_ ?_
 ·rintro s12j1 t H e ⟨v2j1,v3j1,Zj1⟩ rfl
  try dsimp only at hh
  try simp only[ef,seval,Zj1]
  apply sp al hh<;>intro _ hh
  ·cases hh
   try simp only[ef,seval]
  ·obtain⟨r4,hr4,hh⟩:=ah hh
   obtain⟨r5,hr5,hh⟩:=ah hh
   obtain⟨r6,hr6,hh⟩:=ah hh
   try simp only[ef,seval,Zj1,hr4,hr5,hr6]
   refine bt (by kernel_rfl) ?_
   cases hh
   try simp only[seval]
 ·clear hh
  have hh:=ho2
  try simp only[ef,seval]
  apply sp aN hh<;>intro _ hh
  ·cases hh
   try simp only[ef,seval]
   rw[an]
   refine⟨_,rfl,?_⟩
   refine⟨0,0,?_⟩
   and_intros<;>first|rfl|(simp only[ef,seval,hr1]<;>rfl)
  ·obtain⟨r8,hr8,hh⟩:=ah hh
   cases hh
   try simp only[ef,seval,hr8]
   rw[an]
   refine⟨_,rfl,?_⟩
   refine⟨0,0,?_⟩
   and_intros<;>first|rfl|(simp only[ef,seval,hr1,hr8]<;>rfl)
theorem Bm:bP prog 51 nI:=bP.gr (mode := .clean) tok Bf mixed func51 (by kernel_rfl) (fun _=>by kernel_rfl) (fun x r h=>DH x.1 x.2 r h)
def sI:=fb (eU (pE aC)) (fun x:(List ao)=>qe x) (fun r:Bool =>.clean (.bool r))
theorem AO (p0:(List ao)):sI none [.sl false false p0.length (ab aC p0)]=(qe p0).map fun r:Bool=>(.clean (.bool r),none):=aJ _ _ _ (p0)
def oY:Env:=(Am.ext (Am.ext (Am.ext (Am.ext (Am.ext a7 39 false gM) 51 false nI) 52 false qt) 83 false fk) 135 false ue)
theorem JU:bA prog oY:=(((((bA.none.add jg false).add Bm false).add AF false).add gu false).add Ea false)
theorem dy:type_of% (ai @w<|ai @eo<|ai @tL<|ai @rI<|ai @cO<|ai @u9<|@oY.eq_1):=⟨@w,@eo,@tL,@rI,@cO,@u9,@oY.eq_1⟩
theorem NS (p0:(List ao)) (r:Bool) (hh:qe p0=some r):aW .clean tab oY FU Tryz.f173 none [.sl false false p0.length (ab aC p0)]=some (.clean (.bool r),none):=by
 apply aB rfl ntmps173 results173
 unfold qe at hh
 obtain⟨r1,hr1,hh⟩:=ah hh
 try simp only[dy,seval,hr1]
 obtain⟨o9,ho9,hh⟩:=ah hh
 refine ay (fun s t H e=>match s with|(s9a,r3_0a,r3_1a,r3_2a,r3_3a)=>∃v3a:Nat,t 3=.ptr 3 v3a 0∧t 7=.sl false false p0.length (ab aC p0)∧t 8=.int .i64 (p0.length:Int)∧t 9=.int .i64 s9a∧H 3=some ⟨v3a,42,[.int .i64 r3_0a,.sl false false r3_1a.length (ab (eI .i64) r3_1a),.int .i64 r3_2a,.sl false false r3_3a.length (ab (eI .i64) r3_3a)],false,false,false⟩) (fun o x t H e=>match o with|(.inl (r3_0ax,r3_1ax,r3_2ax,r3_3ax))=>x=.exit 0∧∃v3ax:Nat,t 3=.ptr 3 v3ax 0∧H 3=some ⟨v3ax,42,[.int .i64 r3_0ax,.sl false false r3_1ax.length (ab (eI .i64) r3_1ax),.int .i64 r3_2ax,.sl false false r3_3ax.length (ab (eI .i64) r3_3ax)],false,false,false⟩|(.inr r)=>x=.ret∧eR .clean tab none [.tmp 2] ⟨t,EH H,e⟩=some (.clean (.bool r),none)) ho9 ?_ ?_ ?_
 ·refine⟨1,?_⟩
  and_intros<;>first|rfl|(simp only[dy,seval,hr1]<;>rfl)
 ·rintro⟨s9a,r3_0a,r3_1a,r3_2a,r3_3a⟩ t H e ⟨v3a,Za⟩ c hh
  simp only[xZ]at hh
  try simp only[dy,seval,Za]
  apply sp al hh<;>intro _ hh
  ·obtain⟨x11,hx11,hh⟩:=ah hh
   have ax11:=bm aC hx11
   simp only[bN]at ax11
   obtain⟨r12,hr12,hh⟩:=ah hh
   try simp only[dy,seval,Za,ax11,hr12]
   apply sp aN hh<;>intro _ hh
   ·cases hh
    try simp only[dy,seval]
    refine rz ⟨rfl,?_⟩
    try simp only[dy,seval]
   ·obtain⟨r14,hr14,hh⟩:=ah hh
    try simp only[dy,seval,hr14]
    apply sp al hh<;>intro _ hh
    ·cases hh
     try simp only[dy,seval]
     refine rz ⟨rfl,?_⟩
     try simp only[dy,seval]
    ·obtain⟨r16,hr16,hh⟩:=ah hh
     cases hh
     try simp only[dy,seval,Za,hr16]
     apply gL
     refine⟨v3a,?_⟩
     and_intros<;>first|rfl|(simp only[dy,seval,Za]<;>rfl)
  ·cases hh
   try simp only[dy,seval]
   apply jr
   refine⟨rfl,⟨v3a,?_⟩⟩
   and_intros<;>first|rfl|(simp only[dy,seval,Za]<;>rfl)
 ·rintro x t H e hx
  rcases o9 with⟨r3_0ax,r3_1ax,r3_2ax,r3_3ax⟩|ra
  ·dsimp only at hx hh
   obtain⟨rfl,⟨v3ax,Zax⟩⟩:=hx
   obtain⟨r17,hr17,hh⟩:=ah hh
   obtain⟨r18,hr18,hh⟩:=ah hh
   try simp only[dy,seval,Zax,hr17,hr18]
   refine bt (by kernel_rfl) ?_
   cases hh
   try simp only[seval]
  ·dsimp only at hx hh
   obtain⟨rfl,hE⟩:=hx
   cases hh
   try simp only[aU,bd,b7,b5]
   exact hE
theorem Kh:bP prog 173 sI:=bP.gr (mode := .clean) tok JU mixed func173 (by kernel_rfl) (fun _=>by kernel_rfl) (fun x r h=>NS x r h)
def mE:=fb (eU (bM JA)) (fun x:kJ=>jL x) (fun r:Bool =>.clean (.bool r))
theorem sd (p0_0:(List kK)) (p0_1:(List BY)) (p0_2:(List (List ao))):mE none [.agg [.sl false false p0_0.length (ab bj p0_0),.sl false false p0_1.length (ab dW p0_1),.sl false false p0_2.length (ab (lf aC) p0_2)]]=(jL (kJ.mk p0_0 p0_1 p0_2)).map fun r:Bool=>(.clean (.bool r),none):=aJ _ _ _ ((kJ.mk p0_0 p0_1 p0_2))
def jU:Env:=(Am.ext (Am.ext a7 71 false fV) 173 false sI)
theorem zc:bA prog jU:=((bA.none.add ir false).add Kh false)
theorem aw:type_of% (ai @w<|ai @dJ<|ai @AO<|@jU.eq_1):=⟨@w,@dJ,@AO,@jU.eq_1⟩
theorem Bi (p0:kJ) (r:Bool) (hh:jL p0=some r):aW .clean tab jU FU Tryz.f126 none [.agg [.sl false false p0.aA.length (ab bj p0.aA),.sl false false p0.bh.length (ab dW p0.bh),.sl false false p0.ba.length (ab (lf aC) p0.ba)]]=some (.clean (.bool r),none):=by
 apply aB rfl ntmps126 results126
 unfold jL at hh
 try simp only[aw,seval]
 obtain⟨o1,ho1,hh⟩:=ah hh
 refine bs 0 (fun s t H e=>match s with|s27j1=>∃v1j1:Nat,t 1=.ptr 1 v1j1 0∧t 27=.bool s27j1∧H 1=some ⟨v1j1,52,[.sl false false p0.aA.length (ab bj p0.aA),.sl false false p0.bh.length (ab dW p0.bh),.sl false false p0.ba.length (ab (lf aC) p0.ba)],false,false,false⟩) (fun s=>s=o1) ?_ ?_
 ·rintro s27j1 t H e ⟨v1j1,Zj1⟩ rfl
  try dsimp only at hh
  try simp only[aw,seval,Zj1]
  apply sp al hh<;>intro _ hh
  ·cases hh
   try simp only[aw,seval]
  ·try simp only[aw,seval,Zj1]
   obtain⟨o10,ho10,hh⟩:=ah hh
   refine ay (fun s t H e=>match s with|s31b=>∃v1b:Nat,t 1=.ptr 1 v1b 0∧t 29=.sl false false p0.bh.length (ab dW p0.bh)∧t 30=.int .i64 (p0.bh.length:Int)∧t 31=.int .i64 s31b∧H 1=some ⟨v1b,52,[.sl false false p0.aA.length (ab bj p0.aA),.sl false false p0.bh.length (ab dW p0.bh),.sl false false p0.ba.length (ab (lf aC) p0.ba)],false,false,false⟩) (fun o x t H e=>match o with|(.inl _)=>x=.exit 0∧∃v1bx:Nat,t 1=.ptr 1 v1bx 0∧H 1=some ⟨v1bx,52,[.sl false false p0.aA.length (ab bj p0.aA),.sl false false p0.bh.length (ab dW p0.bh),.sl false false p0.ba.length (ab (lf aC) p0.ba)],false,false,false⟩|(.inr r)=>x=.ret∧eR .clean tab none [.tmp 2] ⟨t,EH H,e⟩=some (.clean (.bool r),none)) ho10 ?_ ?_ ?_
   ·refine⟨v1j1,?_⟩
    and_intros<;>first|rfl|(simp only[aw,seval,Zj1]<;>rfl)
   ·rintro s31b t H e ⟨v1b,Zb⟩ c hh
    simp only[p7]at hh
    try simp only[aw,seval,Zb]
    apply sp al hh<;>intro _ hh
    ·obtain⟨x12,hx12,hh⟩:=ah hh
     have ax12:=bm dW hx12
     simp only[bN]at ax12
     obtain⟨r13,hr13,hh⟩:=ah hh
     try simp only[aw,seval,Zb,ax12,hr13]
     apply sp mC hh<;>intro _ hh
     ·try simp only[aw,seval]
      refine bt (by kernel_rfl) ?_
      cases hh
      try simp only[aw,seval,Zb,ax12,hr13]
      refine rz ⟨rfl,?_⟩
      try simp only[aw,seval]
     ·try simp only[aw,seval]
      apply sp mC hh<;>intro _ hh
      ·try simp only[aw,seval]
       refine bt (by kernel_rfl) ?_
       cases hh
       try simp only[aw,seval,Zb,ax12,hr13]
       refine rz ⟨rfl,?_⟩
       try simp only[aw,seval]
      ·obtain⟨x16,hx16,hh⟩:=ah hh
       have ax16:=bm (lf aC) hx16
       simp only[bN]at ax16
       try simp only[aw,seval,Zb,ax12,ax16]
       refine bt (by kernel_rfl) ?_
       try simp only[aw,seval,Zb,ax12,hr13,ax16]
       apply sp al hh<;>intro _ hh
       ·cases hh
        try simp only[aw,seval]
        refine rz ⟨rfl,?_⟩
        try simp only[aw,seval]
       ·cases hh
        try simp only[aw,seval,Zb]
        apply gL
        refine⟨v1b,?_⟩
        and_intros<;>first|rfl|(simp only[aw,seval,Zb]<;>rfl)
    ·cases hh
     try simp only[aw,seval]
     apply jr
     refine⟨rfl,⟨v1b,?_⟩⟩
     and_intros<;>first|rfl|(simp only[aw,seval,Zb]<;>rfl)
   ·rintro x t H e hx
    rcases o10 with _|rb
    ·dsimp only at hx hh
     obtain⟨rfl,⟨v1bx,Zbx⟩⟩:=hx
     try simp only[aw,seval,Zbx]
     obtain⟨o38,ho38,hh⟩:=ah hh
     refine ay (fun s t H e=>match s with|s61c=>∃v1c:Nat,t 1=.ptr 1 v1c 0∧t 59=.sl false false p0.aA.length (ab bj p0.aA)∧t 60=.int .i64 (p0.aA.length:Int)∧t 61=.int .i64 s61c∧H 1=some ⟨v1c,52,[.sl false false p0.aA.length (ab bj p0.aA),.sl false false p0.bh.length (ab dW p0.bh),.sl false false p0.ba.length (ab (lf aC) p0.ba)],false,false,false⟩) (fun o x t H e=>match o with|(.inl _)=>x=.exit 2|(.inr r)=>x=.ret∧eR .clean tab none [.tmp 2] ⟨t,EH H,e⟩=some (.clean (.bool r),none)) ho38 ?_ ?_ ?_
     ·refine⟨v1bx,?_⟩
      and_intros<;>first|rfl|(simp only[aw,seval,Zbx]<;>rfl)
     ·rintro s61c t H e ⟨v1c,Zc⟩ c hh
      simp only[p8]at hh
      try simp only[aw,seval,Zc]
      apply sp al hh<;>intro _ hh
      ·obtain⟨x40,hx40,hh⟩:=ah hh
       have ax40:=bm bj hx40
       simp only[bN]at ax40
       obtain⟨x41,hx41,hh⟩:=ah hh
       obtain⟨q42a,q42b,q42c,q42d,q42e⟩:=mk_one aC hx41
       simp only[bN]at q42d
       try simp only[aw,seval,Zc,ax40,q42a,q42b,q42c,q42d,q42e]
       obtain⟨o48,ho48,hh⟩:=ah hh
       refine ay (fun s t H e=>match s with|(s73e,l7e)=>∃v1e:Nat,∃v6e:Nat,∃v7e:Nat,t 1=.ptr 1 v1e 0∧t 5=.int .i64 s61c∧t 6=.ptr 6 v6e 0∧t 7=.buf 7 v7e 4 0 (l7e).length∧t 59=.sl false false p0.aA.length (ab bj p0.aA)∧t 60=.int .i64 (p0.aA.length:Int)∧t 61=.int .i64 s61c∧t 72=.int .i64 (p0.bh.length:Int)∧t 73=.int .i64 s73e∧H 1=some ⟨v1e,52,[.sl false false p0.aA.length (ab bj p0.aA),.sl false false p0.bh.length (ab dW p0.bh),.sl false false p0.ba.length (ab (lf aC) p0.ba)],false,false,false⟩∧H 6=some ⟨v6e,98,[.int .i64 x40.jv,.int .i64 x40.gC,.int .i64 x40.b6],false,false,false⟩∧H 7=some ⟨v7e,42,ab aC l7e,false,true,false⟩) (fun o x t H e=>match o with|l7ex=>x=.exit 4∧∃v1ex:Nat,∃v6ex:Nat,∃v7ex:Nat,t 1=.ptr 1 v1ex 0∧t 6=.ptr 6 v6ex 0∧t 7=.buf 7 v7ex 4 0 (l7ex).length∧t 59=.sl false false p0.aA.length (ab bj p0.aA)∧t 60=.int .i64 (p0.aA.length:Int)∧t 61=.int .i64 s61c∧H 1=some ⟨v1ex,52,[.sl false false p0.aA.length (ab bj p0.aA),.sl false false p0.bh.length (ab dW p0.bh),.sl false false p0.ba.length (ab (lf aC) p0.ba)],false,false,false⟩∧H 6=some ⟨v6ex,98,[.int .i64 x40.jv,.int .i64 x40.gC,.int .i64 x40.b6],false,false,false⟩∧H 7=some ⟨v7ex,42,ab aC l7ex,false,true,false⟩) ho48 ?_ ?_ ?_
       ·refine⟨v1c,e+1,e+1+1,?_⟩
        and_intros<;>first|rfl|(simp only[aw,seval,Zc]<;>rfl)
       ·rintro⟨s73e,l7e⟩ t H e ⟨v1e,v6e,v7e,Ze⟩ c hh
        simp only[p9]at hh
        try simp only[aw,seval,Ze]
        apply sp al hh<;>intro _ hh
        ·obtain⟨x50,hx50,hh⟩:=ah hh
         have ax50:=bm (lf aC) hx50
         simp only[bN]at ax50
         obtain⟨x51,hx51,hh⟩:=ah hh
         have ax51:=bm aC hx51
         simp only[bN]at ax51
         obtain⟨x52,hx52,hh⟩:=ah hh
         have ax52:=bm aC hx52
         simp only[bN]at ax52
         have p53:=eZ aC (x':=x51) (fo:=0) (cs:=[.int .i64 x51.aZ.ae,.sl false false x51.aZ.aa.length (ab (eI .i64) x51.aZ.aa),.int .i64 x51.aY.ae,.sl false false x51.aY.aa.length (ab (eI .i64) x51.aY.aa)]) hx52 rfl (ahB rfl)
         simp only[bN,Nat.add_zero]at p53
         have up53:=p53
         simp only[putCells,List.length_cons,List.length_nil,agF,Nat.reduceAdd]at up53
         cases hh
         try simp only[aw,seval,ax40,Ze,ax50,ax51,ax52,up53]
         apply gL
         refine⟨v1e,v6e,v7e,?_⟩
         and_intros<;>first|rfl|(simp only[aw,seval,Ze]<;>rfl)
        ·cases hh
         try simp only[aw,seval]
         apply jr
         refine⟨rfl,⟨v1e,v6e,v7e,?_⟩⟩
         and_intros<;>first|rfl|(simp only[aw,seval,Ze]<;>rfl)
       ·rintro x t H e hx
        obtain⟨l7ex,rfl⟩:∃z,z=o48:=⟨_,rfl⟩
        dsimp only at hx hh
        obtain⟨rfl,⟨v1ex,v6ex,v7ex,Zex⟩⟩:=hx
        obtain⟨r54,hr54,hh⟩:=ah hh
        try simp only[aw,seval,Zex,hr54]
        apply sp aN hh<;>intro _ hh
        ·cases hh
         try simp only[aw,seval]
         refine rz ⟨rfl,?_⟩
         try simp only[aw,seval]
        ·try simp only[aw,seval,Zex]
         apply sp aN hh<;>intro _ hh
         ·cases hh
          try simp only[aw,seval]
          refine rz ⟨rfl,?_⟩
          try simp only[aw,seval]
         ·obtain⟨r57,hr57,hh⟩:=ah hh
          try simp only[aw,seval,Zex,hr57]
          apply sp al hh<;>intro _ hh
          ·cases hh
           try simp only[aw,seval]
           refine rz ⟨rfl,?_⟩
           try simp only[aw,seval]
          ·cases hh
           try simp only[aw,seval,Zex]
           apply gL
           refine⟨v1ex,?_⟩
           and_intros<;>first|rfl|(simp only[aw,seval,Zex]<;>rfl)
      ·cases hh
       try simp only[aw,seval]
       apply jr
       exact rfl
     ·rintro x t H e hx
      rcases o38 with _|rc
      ·dsimp only at hx hh
       subst hx
       cases hh
       try simp only[aw,seval]
      ·dsimp only at hx hh
       obtain⟨rfl,hE⟩:=hx
       cases hh
       try simp only[aU,bd,b7,b5]
       exact hE
    ·dsimp only at hx hh
     obtain⟨rfl,hE⟩:=hx
     cases hh
     try simp only[aU,bd,b7,b5]
     exact hE
 ·clear hh
  have hh:=ho1
  try simp only[aw,seval]
  apply sp aN hh<;>intro _ hh
  ·cases hh
   try simp only[aw,seval]
   rw[an]
   refine⟨_,rfl,?_⟩
   refine⟨0,?_⟩
   and_intros<;>first|rfl|(simp only[aw,seval]<;>rfl)
  ·try simp only[aw,seval]
   apply sp aN hh<;>intro _ hh
   ·cases hh
    try simp only[aw,seval]
    rw[an]
    refine⟨_,rfl,?_⟩
    refine⟨0,?_⟩
    and_intros<;>first|rfl|(simp only[aw,seval]<;>rfl)
   ·cases hh
    try simp only[aw,seval]
    rw[an]
    refine⟨_,rfl,?_⟩
    refine⟨0,?_⟩
    and_intros<;>first|rfl|(simp only[aw,seval]<;>rfl)
theorem zj:bP prog 126 mE:=bP.gr (mode := .clean) tok zc mixed func126 (by kernel_rfl) (fun _=>by kernel_rfl) (fun x r h=>Bi x r h)
def qw:=fb (jO (bM eH) (eU (aIp (eI .i64)))) (fun x:mQ×Int=>oh x.1 x.2) (fun r:Bool =>.clean (.bool r))
theorem yj (p0_0:Int) (p0_1:Int) (p1:Int):qw none [.agg [.int .i64 p0_0,.int .i64 p0_1],.ip [.int .i64 p1]]=(oh (mQ.mk p0_0 p0_1) p1).map fun r:Bool=>(.clean (.bool r),none):=aJ _ _ _ ((mQ.mk p0_0 p0_1),p1)
def ng:Env:=(Am.ext a7 71 false fV)
theorem Fw:bA prog ng:=(bA.none.add ir false)
theorem rW:type_of% (ai @w<|ai @dJ<|@ng.eq_1):=⟨@w,@dJ,@ng.eq_1⟩
theorem J5 (p0:mQ) (p1:Int) (r:Bool) (hh:oh p0 p1=some r):aW .clean tab ng FU Tryz.f127 none [.agg [.int .i64 p0.j0,.int .i64 p0.b6],.ip [.int .i64 p1]]=some (.clean (.bool r),none):=by
 apply aB rfl ntmps127 results127
 unfold oh at hh
 obtain⟨r1,hr1,hh⟩:=ah hh
 try simp only[rW,seval,hr1]
 apply sp aN hh<;>intro _ hh
 ·cases hh
  try simp only[rW,seval]
 ·obtain⟨r3,hr3,hh⟩:=ah hh
  cases hh
  try simp only[rW,seval,hr3]
theorem FM:bP prog 127 qw:=bP.gr (mode := .clean) tok Fw mixed func127 (by kernel_rfl) (fun _=>by kernel_rfl) (fun x r h=>J5 x.1 x.2 r h)
def qy:=fb (jO (aI .i64) (eU (aIp (eI .i64)))) (fun x:Int×Int=>oo x.1 x.2) (fun r:Bool =>.clean (.bool r))
theorem yk (p0:Int) (p1:Int):qy none [.int .i64 p0,.ip [.int .i64 p1]]=(oo p0 p1).map fun r:Bool=>(.clean (.bool r),none):=aJ _ _ _ (p0,p1)
def nh:Env:=(Am.ext a7 71 false fV)
theorem Fx:bA prog nh:=(bA.none.add ir false)
theorem KP:type_of% (ai @w<|ai @dJ<|@nh.eq_1):=⟨@w,@dJ,@nh.eq_1⟩
theorem J6 (p0:Int) (p1:Int) (r:Bool) (hh:oo p0 p1=some r):aW .clean tab nh FU Tryz.f128 none [.int .i64 p0,.ip [.int .i64 p1]]=some (.clean (.bool r),none):=by
 apply aB rfl ntmps128 results128
 unfold oo at hh
 obtain⟨r1,hr1,hh⟩:=ah hh
 cases hh
 try simp only[KP,seval,hr1]
theorem FN:bP prog 128 qy:=bP.gr (mode := .clean) tok Fx mixed func128 (by kernel_rfl) (fun _=>by kernel_rfl) (fun x r h=>J6 x.1 x.2 r h)
def mF:=fb (eU (pE (eI .i64))) (fun x:(List Int)=>pK x) (fun r:(List Int) =>.clean (.clo 208 0 [.ip [.sl false false r.length (ab (eI .i64) r)]]))
theorem se (p0:(List Int)):mF none [.sl false false p0.length (ab (eI .i64) p0)]=(pK p0).map fun r:(List Int)=>(.clean (.clo 208 0 [.ip [.sl false false r.length (ab (eI .i64) r)]]),none):=aJ _ _ _ p0
theorem zk:bP prog 175 mF:=Wg
def cQ:=fb (eU (UN 208 0 (eU (aIp (lf (eI .i64)))))) (fun x:(List Int)=>dn x) (fun r:(List Int) =>.fresh 3 1 r.length (ab (eI .i64) r))
theorem eJ (p0:(List Int)):cQ none [.clo 208 0 [.ip [.sl false false p0.length (ab (eI .i64) p0)]]]=(dn p0).map fun r:(List Int)=>(.fresh 3 1 r.length (ab (eI .i64) r),none):=aJ _ _ _ p0
theorem iD:bP prog 174 cQ:=V2
def pz:=fb (jO (pE (eI .i64)) (eU (aI .i64))) (fun x:(List Int)×Int=>kr x.1 x.2) (fun r:Bool =>.clean (.bool r))
theorem vZ (p0:(List Int)) (p1:Int):pz none [.sl false false p0.length (ab (eI .i64) p0),.int .i64 p1]=(kr p0 p1).map fun r:Bool=>(.clean (.bool r),none):=aJ _ _ _ (p0,p1)
def lT:Env:=(Am.ext (Am.ext a7 174 false cQ) 175 false mF)
theorem Dh:bA prog lT:=((bA.none.add iD false).add zk false)
theorem dH:type_of% (ai @w<|ai @eJ<|ai @se<|@lT.eq_1):=⟨@w,@eJ,@se,@lT.eq_1⟩
theorem FG (p0:(List Int)) (p1:Int) (r:Bool) (hh:kr p0 p1=some r):aW .clean tab lT FU Tryz.f129 none [.sl false false p0.length (ab (eI .i64) p0),.int .i64 p1]=some (.clean (.bool r),none):=by
 apply aB rfl ntmps129 results129
 unfold kr at hh
 obtain⟨r1,hr1,hh⟩:=ah hh
 obtain⟨r2,hr2,hh⟩:=ah hh
 try simp only[dH,seval,hr1,hr2]
 obtain⟨o6,ho6,hh⟩:=ah hh
 refine ay (fun s t H e=>match s with|s13a=>∃v5a:Nat,t 1=.int .i64 p1∧t 5=.buf 5 v5a 1 0 (r2).length∧t 11=.buf 5 v5a 1 0 (r2).length∧t 12=.int .i64 ((r2).length:Int)∧t 13=.int .i64 s13a∧H 5=some ⟨v5a,3,ab (eI .i64) r2,false,true,false⟩) (fun o x t H e=>match o with|(.inl _)=>x=.exit 0∧∃v5ax:Nat,t 1=.int .i64 p1∧t 5=.buf 5 v5ax 1 0 (r2).length∧H 5=some ⟨v5ax,3,ab (eI .i64) r2,false,true,false⟩|(.inr r)=>x=.ret∧eR .clean tab none [.tmp 4] ⟨t,EH H,e⟩=some (.clean (.bool r),none)) ho6 ?_ ?_ ?_
 ·refine⟨1,?_⟩
  and_intros<;>first|rfl|(simp only[dH,seval,hr1,hr2]<;>rfl)
 ·rintro s13a t H e ⟨v5a,Za⟩ c hh
  simp only[tF]at hh
  try simp only[dH,seval,Za]
  apply sp al hh<;>intro _ hh
  ·obtain⟨x8,hx8,hh⟩:=ah hh
   have ax8:=bm (eI .i64) hx8
   simp only[bN]at ax8
   try simp only[dH,seval,Za,ax8]
   apply sp al hh<;>intro _ hh
   ·cases hh
    try simp only[dH,seval]
    refine rz ⟨rfl,?_⟩
    try simp only[dH,seval]
   ·cases hh
    try simp only[dH,seval,Za]
    apply gL
    refine⟨v5a,?_⟩
    and_intros<;>first|rfl|(simp only[dH,seval,Za]<;>rfl)
  ·cases hh
   try simp only[dH,seval]
   apply jr
   refine⟨rfl,⟨v5a,?_⟩⟩
   and_intros<;>first|rfl|(simp only[dH,seval,Za]<;>rfl)
 ·rintro x t H e hx
  rcases o6 with _|ra
  ·dsimp only at hx hh
   obtain⟨rfl,⟨v5ax,Zax⟩⟩:=hx
   cases hh
   try simp only[dH,seval,Zax]
  ·dsimp only at hx hh
   obtain⟨rfl,hE⟩:=hx
   cases hh
   try simp only[aU,bd,b7,b5]
   exact hE
theorem Eb:bP prog 129 pz:=bP.gr (mode := .clean) tok Dh mixed func129 (by kernel_rfl) (fun _=>by kernel_rfl) (fun x r h=>FG x.1 x.2 r h)
def dT:=fb (jO (pE eH) (eU (UN 127 0 (eU (aIp (eI .i64)))))) (fun x:(List mQ)×(Int)=>cc x.1 x.2) (fun r:Int =>.clean (.int .i64 r))
theorem fM (p0:(List mQ)) (p1c0:Int):dT none [.sl false false p0.length (ab eH p0),.clo 127 0 [.ip [.int .i64 p1c0]]]=(cc p0 p1c0).map fun r:Int=>(.clean (.int .i64 r),none):=aJ _ _ _ (p0,(p1c0))
def cF:Env:=(Am.ext a7 127 false qw)
theorem ka:bA prog cF:=(bA.none.add FM false)
theorem aQ:type_of% (ai @w<|ai @yj<|@cF.eq_1):=⟨@w,@yj,@cF.eq_1⟩
theorem kE (p0:(List mQ)) (p1c0:Int) (r:Int) (hh:cc p0 p1c0=some r):aW .clean tab cF FU Tryz.f176 none [.sl false false p0.length (ab eH p0),.clo 127 0 [.ip [.int .i64 p1c0]]]=some (.clean (.int .i64 r),none):=by
 apply aB rfl ntmps176 results176
 unfold cc at hh
 try simp only[aQ,seval]
 obtain⟨o5,ho5,hh⟩:=ah hh
 refine ay (fun s t H e=>match s with|s8a=>t 0=.sl false false p0.length (ab eH p0)∧t 1=.clo 127 0 [.ip [.int .i64 p1c0]]∧t 7=.int .i64 (p0.length:Int)∧t 8=.int .i64 s8a) (fun o x t H e=>match o with|(.inl _)=>x=.exit 0|(.inr r)=>x=.ret∧eR .clean tab none [.tmp 4] ⟨t,EH H,e⟩=some (.clean (.int .i64 r),none)) ho5 ?_ ?_ ?_
 ·and_intros<;>first|rfl|(simp only[aQ,seval]<;>rfl)
 ·rintro s8a t H e Za c hh
  simp only[fG]at hh
  try simp only[aQ,seval,Za]
  apply sp al hh<;>intro _ hh
  ·obtain⟨x7,hx7,hh⟩:=ah hh
   have ax7:=bm eH hx7
   simp only[bN]at ax7
   obtain⟨r8,hr8,hh⟩:=ah hh
   try simp only[aQ,seval,Za,ax7,hr8]
   apply sp al hh<;>intro _ hh
   ·cases hh
    try simp only[aQ,seval]
    refine rz ⟨rfl,?_⟩
    try simp only[aQ,seval]
   ·cases hh
    try simp only[aQ,seval,Za]
    apply gL
    and_intros<;>first|rfl|(simp only[aQ,seval,Za]<;>rfl)
  ·cases hh
   try simp only[aQ,seval]
   apply jr
   exact rfl
 ·rintro x t H e hx
  rcases o5 with _|ra
  ·dsimp only at hx hh
   subst hx
   cases hh
   try simp only[aQ,seval]
  ·dsimp only at hx hh
   obtain⟨rfl,hE⟩:=hx
   cases hh
   try simp only[aU,bd,b7,b5]
   exact hE
theorem kf:bP prog 176 dT:=bP.gr (mode := .clean) tok ka mixed func176 (by kernel_rfl) (fun _=>by kernel_rfl) (fun x r h=>kE x.1 x.2 r h)
def dr:=fb (jO (pE eH) (eU (UN 127 0 (eU (aIp (eI .i64)))))) (fun x:(List mQ)×(Int)=>bW x.1 x.2) (fun r:Bool =>.clean (.bool r))
theorem fh (p0:(List mQ)) (p1c0:Int):dr none [.sl false false p0.length (ab eH p0),.clo 127 0 [.ip [.int .i64 p1c0]]]=(bW p0 p1c0).map fun r:Bool=>(.clean (.bool r),none):=aJ _ _ _ (p0,(p1c0))
def ck:Env:=(Am.ext a7 176 false dT)
theorem iY:bA prog ck:=(bA.none.add kf false)
theorem jz:type_of% (ai @w<|ai @fM<|@ck.eq_1):=⟨@w,@fM,@ck.eq_1⟩
theorem jw (p0:(List mQ)) (p1c0:Int) (r:Bool) (hh:bW p0 p1c0=some r):aW .clean tab ck FU Tryz.f130 none [.sl false false p0.length (ab eH p0),.clo 127 0 [.ip [.int .i64 p1c0]]]=some (.clean (.bool r),none):=by
 apply aB rfl ntmps130 results130
 unfold bW at hh
 obtain⟨r1,hr1,hh⟩:=ah hh
 cases hh
 try simp only[jz,seval,hr1]
theorem jh:bP prog 130 dr:=bP.gr (mode := .clean) tok iY mixed func130 (by kernel_rfl) (fun _=>by kernel_rfl) (fun x r h=>jw x.1 x.2 r h)
def dU:=fb (jO (pE (eI .i64)) (eU (UN 128 0 (eU (aIp (eI .i64)))))) (fun x:(List Int)×(Int)=>cd x.1 x.2) (fun r:Int =>.clean (.int .i64 r))
theorem fN (p0:(List Int)) (p1c0:Int):dU none [.sl false false p0.length (ab (eI .i64) p0),.clo 128 0 [.ip [.int .i64 p1c0]]]=(cd p0 p1c0).map fun r:Int=>(.clean (.int .i64 r),none):=aJ _ _ _ (p0,(p1c0))
def cG:Env:=(Am.ext a7 128 false qy)
theorem kb:bA prog cG:=(bA.none.add FN false)
theorem aR:type_of% (ai @w<|ai @yk<|@cG.eq_1):=⟨@w,@yk,@cG.eq_1⟩
theorem kF (p0:(List Int)) (p1c0:Int) (r:Int) (hh:cd p0 p1c0=some r):aW .clean tab cG FU Tryz.f177 none [.sl false false p0.length (ab (eI .i64) p0),.clo 128 0 [.ip [.int .i64 p1c0]]]=some (.clean (.int .i64 r),none):=by
 apply aB rfl ntmps177 results177
 unfold cd at hh
 try simp only[aR,seval]
 obtain⟨o5,ho5,hh⟩:=ah hh
 refine ay (fun s t H e=>match s with|s8a=>t 0=.sl false false p0.length (ab (eI .i64) p0)∧t 1=.clo 128 0 [.ip [.int .i64 p1c0]]∧t 7=.int .i64 (p0.length:Int)∧t 8=.int .i64 s8a) (fun o x t H e=>match o with|(.inl _)=>x=.exit 0|(.inr r)=>x=.ret∧eR .clean tab none [.tmp 4] ⟨t,EH H,e⟩=some (.clean (.int .i64 r),none)) ho5 ?_ ?_ ?_
 ·and_intros<;>first|rfl|(simp only[aR,seval]<;>rfl)
 ·rintro s8a t H e Za c hh
  simp only[fH]at hh
  try simp only[aR,seval,Za]
  apply sp al hh<;>intro _ hh
  ·obtain⟨x7,hx7,hh⟩:=ah hh
   have ax7:=bm (eI .i64) hx7
   simp only[bN]at ax7
   obtain⟨r8,hr8,hh⟩:=ah hh
   try simp only[aR,seval,Za,ax7,hr8]
   apply sp al hh<;>intro _ hh
   ·cases hh
    try simp only[aR,seval]
    refine rz ⟨rfl,?_⟩
    try simp only[aR,seval]
   ·cases hh
    try simp only[aR,seval,Za]
    apply gL
    and_intros<;>first|rfl|(simp only[aR,seval,Za]<;>rfl)
  ·cases hh
   try simp only[aR,seval]
   apply jr
   exact rfl
 ·rintro x t H e hx
  rcases o5 with _|ra
  ·dsimp only at hx hh
   subst hx
   cases hh
   try simp only[aR,seval]
  ·dsimp only at hx hh
   obtain⟨rfl,hE⟩:=hx
   cases hh
   try simp only[aU,bd,b7,b5]
   exact hE
theorem kg:bP prog 177 dU:=bP.gr (mode := .clean) tok kb mixed func177 (by kernel_rfl) (fun _=>by kernel_rfl) (fun x r h=>kF x.1 x.2 r h)
def dt:=fb (jO (pE (eI .i64)) (eU (UN 128 0 (eU (aIp (eI .i64)))))) (fun x:(List Int)×(Int)=>bX x.1 x.2) (fun r:Bool =>.clean (.bool r))
theorem fi (p0:(List Int)) (p1c0:Int):dt none [.sl false false p0.length (ab (eI .i64) p0),.clo 128 0 [.ip [.int .i64 p1c0]]]=(bX p0 p1c0).map fun r:Bool=>(.clean (.bool r),none):=aJ _ _ _ (p0,(p1c0))
def cm:Env:=(Am.ext a7 177 false dU)
theorem iZ:bA prog cm:=(bA.none.add kg false)
theorem jA:type_of% (ai @w<|ai @fN<|@cm.eq_1):=⟨@w,@fN,@cm.eq_1⟩
theorem jx (p0:(List Int)) (p1c0:Int) (r:Bool) (hh:bX p0 p1c0=some r):aW .clean tab cm FU Tryz.f131 none [.sl false false p0.length (ab (eI .i64) p0),.clo 128 0 [.ip [.int .i64 p1c0]]]=some (.clean (.bool r),none):=by
 apply aB rfl ntmps131 results131
 unfold bX at hh
 obtain⟨r1,hr1,hh⟩:=ah hh
 cases hh
 try simp only[jA,seval,hr1]
theorem ji:bP prog 131 dt:=bP.gr (mode := .clean) tok iZ mixed func131 (by kernel_rfl) (fun _=>by kernel_rfl) (fun x r h=>jx x.1 x.2 r h)
def wy:=fb (jO (bM cq) (eU (aI .i64))) (fun x:hZ×Int=>tE x.1 x.2) (fun r:Bool =>.clean (.bool r))
theorem Ew (p0_0:(List kK)) (p0_1:(List BY)) (p0_2:(List (List ao))) (p0_3:(List mQ)) (p0_4:(List Int)) (p1:Int):wy none [.agg [.sl false false p0_0.length (ab bj p0_0),.sl false false p0_1.length (ab dW p0_1),.sl false false p0_2.length (ab (lf aC) p0_2),.sl false false p0_3.length (ab eH p0_3),.sl false false p0_4.length (ab (eI .i64) p0_4)],.int .i64 p1]=(tE (hZ.mk (kJ.mk p0_0 p0_1 p0_2) p0_3 p0_4) p1).map fun r:Bool=>(.clean (.bool r),none):=aJ _ _ _ ((hZ.mk (kJ.mk p0_0 p0_1 p0_2) p0_3 p0_4),p1)
def rj:Env:=(Am.ext (Am.ext (Am.ext (Am.ext a7 126 false mE) 129 false pz) 130 false dr) 131 false dt)
theorem MJ:bA prog rj:=((((bA.none.add zj false).add Eb false).add jh false).add ji false)
theorem bz:type_of% (ai @w<|ai @sd<|ai @vZ<|ai @fh<|ai @fi<|@rj.eq_1):=⟨@w,@sd,@vZ,@fh,@fi,@rj.eq_1⟩
theorem QS (p0:hZ) (p1:Int) (r:Bool) (hh:tE p0 p1=some r):aW .clean tab rj FU Tryz.f72 none [.agg [.sl false false p0.aF.aA.length (ab bj p0.aF.aA),.sl false false p0.aF.bh.length (ab dW p0.aF.bh),.sl false false p0.aF.ba.length (ab (lf aC) p0.aF.ba),.sl false false p0.cK.length (ab eH p0.cK),.sl false false p0.az.length (ab (eI .i64) p0.az)],.int .i64 p1]=some (.clean (.bool r),none):=by
 apply aB rfl ntmps72 results72
 unfold tE at hh
 obtain⟨r1,hr1,hh⟩:=ah hh
 try simp only[bz,seval,hr1]
 apply sp al hh<;>intro _ hh
 ·cases hh
  try simp only[bz,seval]
 ·try simp only[bz,seval]
  obtain⟨o8,ho8,hh⟩:=ah hh
  refine ay (fun s t H e=>match s with|(s21a,l5a)=>∃v2a:Nat,∃v3a:Nat,∃v5a:Nat,∃v6a:Nat,t 2=.ptr 2 v2a 0∧t 3=.ptr 3 v3a 0∧t 5=.buf 5 v5a 1 0 (l5a).length∧t 6=.buf 6 v6a 1 0 0∧t 19=.sl false false p0.aF.aA.length (ab bj p0.aF.aA)∧t 20=.int .i64 (p0.aF.aA.length:Int)∧t 21=.int .i64 s21a∧H 2=some ⟨v2a,55,[.sl false false p0.aF.aA.length (ab bj p0.aF.aA),.sl false false p0.aF.bh.length (ab dW p0.aF.bh),.sl false false p0.aF.ba.length (ab (lf aC) p0.aF.ba),.sl false false p0.cK.length (ab eH p0.cK),.sl false false p0.az.length (ab (eI .i64) p0.az)],false,false,false⟩∧H 3=some ⟨v3a,3,[.int .i64 p1],false,false,false⟩∧H 5=some ⟨v5a,3,ab (eI .i64) l5a,false,true,false⟩∧H 6=some ⟨v6a,3,[],false,true,false⟩) (fun o x t H e=>match o with|l5ax=>x=.exit 0∧∃v2ax:Nat,∃v3ax:Nat,∃v5ax:Nat,∃v6ax:Nat,t 2=.ptr 2 v2ax 0∧t 3=.ptr 3 v3ax 0∧t 5=.buf 5 v5ax 1 0 (l5ax).length∧t 6=.buf 6 v6ax 1 0 0∧H 2=some ⟨v2ax,55,[.sl false false p0.aF.aA.length (ab bj p0.aF.aA),.sl false false p0.aF.bh.length (ab dW p0.aF.bh),.sl false false p0.aF.ba.length (ab (lf aC) p0.aF.ba),.sl false false p0.cK.length (ab eH p0.cK),.sl false false p0.az.length (ab (eI .i64) p0.az)],false,false,false⟩∧H 3=some ⟨v3ax,3,[.int .i64 p1],false,false,false⟩∧H 5=some ⟨v5ax,3,ab (eI .i64) l5ax,false,true,false⟩∧H 6=some ⟨v6ax,3,[],false,true,false⟩) ho8 ?_ ?_ ?_
  ·refine⟨0,0,2,2,?_⟩
   and_intros<;>first|rfl|(simp only[bz,seval,hr1]<;>rfl)
  ·rintro⟨s21a,l5a⟩ t H e ⟨v2a,v3a,v5a,v6a,Za⟩ c hh
   simp only[AA]at hh
   try simp only[bz,seval,Za]
   apply sp al hh<;>intro _ hh
   ·obtain⟨x10,hx10,hh⟩:=ah hh
    have ax10:=bm bj hx10
    simp only[bN]at ax10
    try simp only[bz,seval,Za,ax10]
    apply sp al hh<;>intro _ hh
    ·obtain⟨x12,hx12,hh⟩:=ah hh
     obtain⟨q13a,q13b,q13c,q13d⟩:=gV (eI .i64) hx12
     simp only[bN]at q13b
     cases hh
     try simp only[bz,seval,Za,q13a,q13b,q13c,q13d]
     apply gL
     refine⟨v2a,v3a,e+1+1+1,v6a,?_⟩
     and_intros<;>first|rfl|(simp only[bz,seval,Za]<;>rfl)
    ·cases hh
     try simp only[bz,seval,Za]
     apply gL
     refine⟨v2a,v3a,v5a,v6a,?_⟩
     and_intros<;>first|rfl|(simp only[bz,seval,Za]<;>rfl)
   ·cases hh
    try simp only[bz,seval]
    apply jr
    refine⟨rfl,⟨v2a,v3a,v5a,v6a,?_⟩⟩
    and_intros<;>first|rfl|(simp only[bz,seval,Za]<;>rfl)
  ·rintro x t H e hx
   obtain⟨l5ax,rfl⟩:∃z,z=o8:=⟨_,rfl⟩
   dsimp only at hx hh
   obtain⟨rfl,⟨v2ax,v3ax,v5ax,v6ax,Zax⟩⟩:=hx
   try simp only[bz,seval,Zax]
   obtain⟨o19,ho19,hh⟩:=ah hh
   refine ay (fun s t H e=>match s with|(s38b,l6b)=>∃v2b:Nat,∃v3b:Nat,∃v5b:Nat,∃v6b:Nat,t 2=.ptr 2 v2b 0∧t 3=.ptr 3 v3b 0∧t 5=.buf 5 v5b 1 0 (l5ax).length∧t 6=.buf 6 v6b 1 0 (l6b).length∧t 36=.sl false false p0.aF.bh.length (ab dW p0.aF.bh)∧t 37=.int .i64 (p0.aF.bh.length:Int)∧t 38=.int .i64 s38b∧H 2=some ⟨v2b,55,[.sl false false p0.aF.aA.length (ab bj p0.aF.aA),.sl false false p0.aF.bh.length (ab dW p0.aF.bh),.sl false false p0.aF.ba.length (ab (lf aC) p0.aF.ba),.sl false false p0.cK.length (ab eH p0.cK),.sl false false p0.az.length (ab (eI .i64) p0.az)],false,false,false⟩∧H 3=some ⟨v3b,3,[.int .i64 p1],false,false,false⟩∧H 5=some ⟨v5b,3,ab (eI .i64) l5ax,false,true,false⟩∧H 6=some ⟨v6b,3,ab (eI .i64) l6b,false,true,false⟩) (fun o x t H e=>match o with|l6bx=>x=.exit 2∧∃v2bx:Nat,∃v3bx:Nat,∃v5bx:Nat,∃v6bx:Nat,t 2=.ptr 2 v2bx 0∧t 3=.ptr 3 v3bx 0∧t 5=.buf 5 v5bx 1 0 (l5ax).length∧t 6=.buf 6 v6bx 1 0 (l6bx).length∧H 2=some ⟨v2bx,55,[.sl false false p0.aF.aA.length (ab bj p0.aF.aA),.sl false false p0.aF.bh.length (ab dW p0.aF.bh),.sl false false p0.aF.ba.length (ab (lf aC) p0.aF.ba),.sl false false p0.cK.length (ab eH p0.cK),.sl false false p0.az.length (ab (eI .i64) p0.az)],false,false,false⟩∧H 3=some ⟨v3bx,3,[.int .i64 p1],false,false,false⟩∧H 5=some ⟨v5bx,3,ab (eI .i64) l5ax,false,true,false⟩∧H 6=some ⟨v6bx,3,ab (eI .i64) l6bx,false,true,false⟩) ho19 ?_ ?_ ?_
   ·refine⟨v2ax,v3ax,v5ax,v6ax,?_⟩
    and_intros<;>first|rfl|(simp only[bz,seval,Zax]<;>rfl)
   ·rintro⟨s38b,l6b⟩ t H e ⟨v2b,v3b,v5b,v6b,Zb⟩ c hh
    simp only[AB]at hh
    try simp only[bz,seval,Zb]
    apply sp al hh<;>intro _ hh
    ·obtain⟨x21,hx21,hh⟩:=ah hh
     have ax21:=bm dW hx21
     simp only[bN]at ax21
     try simp only[bz,seval,Zb,ax21]
     apply sp al hh<;>intro _ hh
     ·obtain⟨x23,hx23,hh⟩:=ah hh
      obtain⟨q24a,q24b,q24c,q24d⟩:=gV (eI .i64) hx23
      simp only[bN]at q24b
      cases hh
      try simp only[bz,seval,Zb,q24a,q24b,q24c,q24d]
      apply gL
      refine⟨v2b,v3b,v5b,e+1+1+1,?_⟩
      and_intros<;>first|rfl|(simp only[bz,seval,Zb]<;>rfl)
     ·cases hh
      try simp only[bz,seval,Zb]
      apply gL
      refine⟨v2b,v3b,v5b,v6b,?_⟩
      and_intros<;>first|rfl|(simp only[bz,seval,Zb]<;>rfl)
    ·cases hh
     try simp only[bz,seval]
     apply jr
     refine⟨rfl,⟨v2b,v3b,v5b,v6b,?_⟩⟩
     and_intros<;>first|rfl|(simp only[bz,seval,Zb]<;>rfl)
   ·rintro x t H e hx
    obtain⟨l6bx,rfl⟩:∃z,z=o19:=⟨_,rfl⟩
    dsimp only at hx hh
    obtain⟨rfl,⟨v2bx,v3bx,v5bx,v6bx,Zbx⟩⟩:=hx
    obtain⟨r25,hr25,hh⟩:=ah hh
    try simp only[bz,seval,Zbx,hr25]
    apply sp cY hh<;>intro _ hh
    ·obtain⟨r27,hr27,hh⟩:=ah hh
     try simp only[bz,seval,Zbx,hr27]
     apply sp cY hh<;>intro _ hh
     ·obtain⟨r29,hr29,hh⟩:=ah hh
      try simp only[bz,seval,Zbx,hr29]
      apply sp cY hh<;>intro _ hh
      ·obtain⟨r31,hr31,hh⟩:=ah hh
       cases hh
       try simp only[bz,seval,Zbx,hr31]
      ·cases hh
       try simp only[bz,seval]
     ·cases hh
      try simp only[bz,seval]
    ·cases hh
     try simp only[bz,seval]
theorem OA:bP prog 72 wy:=bP.gr (mode := .clean) tok MJ mixed func72 (by kernel_rfl) (fun _=>by kernel_rfl) (fun x r h=>QS x.1 x.2 r h)
def oJ:=fb (eU (bM BB)) (fun x:fA=>nC x) (fun r:Int×Int =>.clean (.tup [.int .i64 r.1,.int .i64 r.2]))
theorem pk (p0_0:(List Int)) (p0_1:(List hZ)):oJ none [.agg [.sl false false p0_0.length (ab (eI .i64) p0_0),.sl false false p0_1.length (ab cq p0_1)]]=(nC (fA.mk p0_0 p0_1)).map fun r:Int×Int=>(.clean (.tup [.int .i64 r.1,.int .i64 r.2]),none):=aJ _ _ _ ((fA.mk p0_0 p0_1))
def oU:Env:=(Am.ext (Am.ext a7 71 false fV) 72 false wy)
theorem JQ:bA prog oU:=((bA.none.add ir false).add OA false)
theorem ax:type_of% (ai @w<|ai @dJ<|ai @Ew<|@oU.eq_1):=⟨@w,@dJ,@Ew,@oU.eq_1⟩
theorem NO (p0:fA) (r:Int×Int) (hh:nC p0=some r):aW .clean tab oU FU Tryz.f19 none [.agg [.sl false false p0.bg.length (ab (eI .i64) p0.bg),.sl false false p0.aT.length (ab cq p0.aT)]]=some (.clean (.tup [.int .i64 r.1,.int .i64 r.2]),none):=by
 apply aB rfl ntmps19 results19
 unfold nC at hh
 try simp only[ax,seval]
 obtain⟨o1,ho1,hh⟩:=ah hh
 refine bs 0 (fun s t H e=>match s with|s27j1=>∃v1j1:Nat,t 1=.ptr 1 v1j1 0∧t 27=.bool s27j1∧H 1=some ⟨v1j1,25,[.sl false false p0.bg.length (ab (eI .i64) p0.bg),.sl false false p0.aT.length (ab cq p0.aT)],false,false,false⟩) (fun s=>s=o1) ?_ ?_
 ·rintro s27j1 t H e ⟨v1j1,Zj1⟩ rfl
  try dsimp only at hh
  try simp only[ax,seval,Zj1]
  apply sp al hh<;>intro _ hh
  ·cases hh
   try simp only[ax,seval]
  ·try simp only[ax,seval,Zj1]
   obtain⟨o7,ho7,hh⟩:=ah hh
   refine ay (fun s t H e=>match s with|s31b=>∃v1b:Nat,t 1=.ptr 1 v1b 0∧t 29=.sl false false p0.bg.length (ab (eI .i64) p0.bg)∧t 30=.int .i64 (p0.bg.length:Int)∧t 31=.int .i64 s31b∧H 1=some ⟨v1b,25,[.sl false false p0.bg.length (ab (eI .i64) p0.bg),.sl false false p0.aT.length (ab cq p0.aT)],false,false,false⟩) (fun o x t H e=>match o with|(.inl _)=>x=.exit 0∧∃v1bx:Nat,t 1=.ptr 1 v1bx 0∧H 1=some ⟨v1bx,25,[.sl false false p0.bg.length (ab (eI .i64) p0.bg),.sl false false p0.aT.length (ab cq p0.aT)],false,false,false⟩|(.inr r)=>x=.ret∧eR .clean tab none [.tmp 2,.tmp 3] ⟨t,EH H,e⟩=some (.clean (.tup [.int .i64 r.1,.int .i64 r.2]),none)) ho7 ?_ ?_ ?_
   ·refine⟨v1j1,?_⟩
    and_intros<;>first|rfl|(simp only[ax,seval,Zj1]<;>rfl)
   ·rintro s31b t H e ⟨v1b,Zb⟩ c hh
    simp only[xT]at hh
    try simp only[ax,seval,Zb]
    apply sp al hh<;>intro _ hh
    ·obtain⟨x9,hx9,hh⟩:=ah hh
     have ax9:=bm (eI .i64) hx9
     simp only[bN]at ax9
     obtain⟨r10,hr10,hh⟩:=ah hh
     try simp only[ax,seval,Zb,ax9,hr10]
     apply sp al hh<;>intro _ hh
     ·cases hh
      try simp only[ax,seval]
      refine rz ⟨rfl,?_⟩
      try simp only[ax,seval]
     ·cases hh
      try simp only[ax,seval,Zb]
      apply gL
      refine⟨v1b,?_⟩
      and_intros<;>first|rfl|(simp only[ax,seval,Zb]<;>rfl)
    ·cases hh
     try simp only[ax,seval]
     apply jr
     refine⟨rfl,⟨v1b,?_⟩⟩
     and_intros<;>first|rfl|(simp only[ax,seval,Zb]<;>rfl)
   ·rintro x t H e hx
    rcases o7 with _|rb
    ·dsimp only at hx hh
     obtain⟨rfl,⟨v1bx,Zbx⟩⟩:=hx
     obtain⟨x12,hx12,hh⟩:=ah hh
     obtain⟨q13a,q13b,q13c,q13d,q13e⟩:=mk_one (eI .i64) hx12
     simp only[bN]at q13d
     obtain⟨q14a,q14b,q14c,q14d,q14e⟩:=mk_one (eI .i64) hx12
     simp only[bN]at q14d
     try simp only[ax,seval,Zbx,q13a,q13b,q13c,q13d,q13e]
     refine bt (by kernel_rfl) ?_
     try simp only[ax,seval,Zbx,q13a,q13b,q13c,q13d,q13e,q14a,q14b,q14c,q14d,q14e]
     obtain⟨o37,ho37,hh⟩:=ah hh
     refine ay (fun s t H e=>match s with|(s52c,l6c,l7c)=>∃v1c:Nat,∃v6c:Nat,∃v7c:Nat,t 1=.ptr 1 v1c 0∧t 6=.buf 6 v6c 1 0 (l6c).length∧t 7=.buf 7 v7c 1 0 (l7c).length∧t 50=.sl false false p0.aT.length (ab cq p0.aT)∧t 51=.int .i64 (p0.aT.length:Int)∧t 52=.int .i64 s52c∧H 1=some ⟨v1c,25,[.sl false false p0.bg.length (ab (eI .i64) p0.bg),.sl false false p0.aT.length (ab cq p0.aT)],false,false,false⟩∧H 6=some ⟨v6c,3,ab (eI .i64) l6c,false,true,false⟩∧H 7=some ⟨v7c,3,ab (eI .i64) l7c,false,true,false⟩) (fun o x t H e=>match o with|(.inl (l6cx,l7cx))=>x=.exit 2∧∃v1cx:Nat,∃v6cx:Nat,∃v7cx:Nat,t 1=.ptr 1 v1cx 0∧t 6=.buf 6 v6cx 1 0 (l6cx).length∧t 7=.buf 7 v7cx 1 0 (l7cx).length∧H 1=some ⟨v1cx,25,[.sl false false p0.bg.length (ab (eI .i64) p0.bg),.sl false false p0.aT.length (ab cq p0.aT)],false,false,false⟩∧H 6=some ⟨v6cx,3,ab (eI .i64) l6cx,false,true,false⟩∧H 7=some ⟨v7cx,3,ab (eI .i64) l7cx,false,true,false⟩|(.inr r)=>x=.ret∧eR .clean tab none [.tmp 2,.tmp 3] ⟨t,EH H,e⟩=some (.clean (.tup [.int .i64 r.1,.int .i64 r.2]),none)) ho37 ?_ ?_ ?_
     ·refine⟨v1bx,e,e,?_⟩
      and_intros<;>first|rfl|(simp only[ax,seval,Zbx]<;>rfl)
     ·rintro⟨s52c,l6c,l7c⟩ t H e ⟨v1c,v6c,v7c,Zc⟩ c hh
      simp only[xU]at hh
      try simp only[ax,seval,Zc]
      apply sp al hh<;>intro _ hh
      ·obtain⟨x39,hx39,hh⟩:=ah hh
       have ax39:=bm cq hx39
       simp only[bN]at ax39
       obtain⟨r40,hr40,hh⟩:=ah hh
       try simp only[ax,seval,Zc,ax39,hr40]
       apply sp al hh<;>intro _ hh
       ·cases hh
        try simp only[ax,seval]
        refine rz ⟨rfl,?_⟩
        try simp only[ax,seval]
       ·try simp only[ax,seval]
        obtain⟨o46,ho46,hh⟩:=ah hh
        refine ay (fun s t H e=>match s with|(s67f,l6f)=>∃v1f:Nat,∃v6f:Nat,∃v7f:Nat,∃v9f:Nat,t 1=.ptr 1 v1f 0∧t 6=.buf 6 v6f 1 0 (l6f).length∧t 7=.buf 7 v7f 1 0 (l7c).length∧t 9=.ptr 9 v9f 0∧t 50=.sl false false p0.aT.length (ab cq p0.aT)∧t 51=.int .i64 (p0.aT.length:Int)∧t 52=.int .i64 s52c∧t 65=.sl false false x39.az.length (ab (eI .i64) x39.az)∧t 66=.int .i64 (x39.az.length:Int)∧t 67=.int .i64 s67f∧H 1=some ⟨v1f,25,[.sl false false p0.bg.length (ab (eI .i64) p0.bg),.sl false false p0.aT.length (ab cq p0.aT)],false,false,false⟩∧H 6=some ⟨v6f,3,ab (eI .i64) l6f,false,true,false⟩∧H 7=some ⟨v7f,3,ab (eI .i64) l7c,false,true,false⟩∧H 9=some ⟨v9f,55,[.sl false false x39.aF.aA.length (ab bj x39.aF.aA),.sl false false x39.aF.bh.length (ab dW x39.aF.bh),.sl false false x39.aF.ba.length (ab (lf aC) x39.aF.ba),.sl false false x39.cK.length (ab eH x39.cK),.sl false false x39.az.length (ab (eI .i64) x39.az)],false,false,false⟩) (fun o x t H e=>match o with|l6fx=>x=.exit 4∧∃v1fx:Nat,∃v6fx:Nat,∃v7fx:Nat,∃v9fx:Nat,t 1=.ptr 1 v1fx 0∧t 6=.buf 6 v6fx 1 0 (l6fx).length∧t 7=.buf 7 v7fx 1 0 (l7c).length∧t 9=.ptr 9 v9fx 0∧t 50=.sl false false p0.aT.length (ab cq p0.aT)∧t 51=.int .i64 (p0.aT.length:Int)∧t 52=.int .i64 s52c∧H 1=some ⟨v1fx,25,[.sl false false p0.bg.length (ab (eI .i64) p0.bg),.sl false false p0.aT.length (ab cq p0.aT)],false,false,false⟩∧H 6=some ⟨v6fx,3,ab (eI .i64) l6fx,false,true,false⟩∧H 7=some ⟨v7fx,3,ab (eI .i64) l7c,false,true,false⟩∧H 9=some ⟨v9fx,55,[.sl false false x39.aF.aA.length (ab bj x39.aF.aA),.sl false false x39.aF.bh.length (ab dW x39.aF.bh),.sl false false x39.aF.ba.length (ab (lf aC) x39.aF.ba),.sl false false x39.cK.length (ab eH x39.cK),.sl false false x39.az.length (ab (eI .i64) x39.az)],false,false,false⟩) ho46 ?_ ?_ ?_
        ·refine⟨v1c,v6c,v7c,e+1,?_⟩
         and_intros<;>first|rfl|(simp only[ax,seval,Zc]<;>rfl)
        ·rintro⟨s67f,l6f⟩ t H e ⟨v1f,v6f,v7f,v9f,Zf⟩ c hh
         simp only[xV]at hh
         try simp only[ax,seval,Zf]
         apply sp al hh<;>intro _ hh
         ·obtain⟨x48,hx48,hh⟩:=ah hh
          have ax48:=bm (eI .i64) hx48
          simp only[bN]at ax48
          obtain⟨x49,hx49,hh⟩:=ah hh
          have ax49:=bm (eI .i64) hx49
          simp only[bN]at ax49
          have ax49:=bm (eI .i64) hx49
          simp only[bN]at ax49
          have p50:=eZ (eI .i64) (x':=IntKind.i64.wrap (x49+1)) (fo:=0) (cs:=[.int .i64 (IntKind.i64.wrap (x49+1))]) hx49 rfl (ahB rfl)
          simp only[bN,Nat.add_zero]at p50
          have up50:=p50
          simp only[putCells,List.length_cons,List.length_nil,agF]at up50
          cases hh
          try simp only[ax,seval,Zf,ax48,ax49,up50]
          apply gL
          refine⟨v1f,v6f,v7f,v9f,?_⟩
          and_intros<;>first|rfl|(simp only[ax,seval,Zf]<;>rfl)
         ·cases hh
          try simp only[ax,seval]
          apply jr
          refine⟨rfl,⟨v1f,v6f,v7f,v9f,?_⟩⟩
          and_intros<;>first|rfl|(simp only[ax,seval,Zf]<;>rfl)
        ·rintro x t H e hx
         obtain⟨l6fx,rfl⟩:∃z,z=o46:=⟨_,rfl⟩
         dsimp only at hx hh
         obtain⟨rfl,⟨v1fx,v6fx,v7fx,v9fx,Zfx⟩⟩:=hx
         try simp only[ax,seval,Zfx]
         obtain⟨o55,ho55,hh⟩:=ah hh
         refine ay (fun s t H e=>match s with|(s81g,l7g)=>∃v1g:Nat,∃v6g:Nat,∃v7g:Nat,t 1=.ptr 1 v1g 0∧t 6=.buf 6 v6g 1 0 (l6fx).length∧t 7=.buf 7 v7g 1 0 (l7g).length∧t 50=.sl false false p0.aT.length (ab cq p0.aT)∧t 51=.int .i64 (p0.aT.length:Int)∧t 52=.int .i64 s52c∧t 79=.sl false false x39.cK.length (ab eH x39.cK)∧t 80=.int .i64 (x39.cK.length:Int)∧t 81=.int .i64 s81g∧H 1=some ⟨v1g,25,[.sl false false p0.bg.length (ab (eI .i64) p0.bg),.sl false false p0.aT.length (ab cq p0.aT)],false,false,false⟩∧H 6=some ⟨v6g,3,ab (eI .i64) l6fx,false,true,false⟩∧H 7=some ⟨v7g,3,ab (eI .i64) l7g,false,true,false⟩) (fun o x t H e=>match o with|l7gx=>x=.exit 6∧∃v1gx:Nat,∃v6gx:Nat,∃v7gx:Nat,t 1=.ptr 1 v1gx 0∧t 6=.buf 6 v6gx 1 0 (l6fx).length∧t 7=.buf 7 v7gx 1 0 (l7gx).length∧t 50=.sl false false p0.aT.length (ab cq p0.aT)∧t 51=.int .i64 (p0.aT.length:Int)∧t 52=.int .i64 s52c∧H 1=some ⟨v1gx,25,[.sl false false p0.bg.length (ab (eI .i64) p0.bg),.sl false false p0.aT.length (ab cq p0.aT)],false,false,false⟩∧H 6=some ⟨v6gx,3,ab (eI .i64) l6fx,false,true,false⟩∧H 7=some ⟨v7gx,3,ab (eI .i64) l7gx,false,true,false⟩) ho55 ?_ ?_ ?_
         ·refine⟨v1fx,v6fx,v7fx,?_⟩
          and_intros<;>first|rfl|(simp only[ax,seval,Zfx]<;>rfl)
         ·rintro⟨s81g,l7g⟩ t H e ⟨v1g,v6g,v7g,Zg⟩ c hh
          simp only[xW]at hh
          try simp only[ax,seval,Zg]
          apply sp al hh<;>intro _ hh
          ·obtain⟨x57,hx57,hh⟩:=ah hh
           have ax57:=bm eH hx57
           simp only[bN]at ax57
           obtain⟨x58,hx58,hh⟩:=ah hh
           have ax58:=bm (eI .i64) hx58
           simp only[bN]at ax58
           have ax58:=bm (eI .i64) hx58
           simp only[bN]at ax58
           have p59:=eZ (eI .i64) (x':=(if 1099511627777<(IntKind.i64.wrap (x58+x57.b6)) then 1099511627777 else IntKind.i64.wrap (x58+x57.b6))) (fo:=0) (cs:=[.int .i64 (if 1099511627777<(IntKind.i64.wrap (x58+x57.b6)) then 1099511627777 else IntKind.i64.wrap (x58+x57.b6))]) hx58 rfl (ahB rfl)
           simp only[bN,Nat.add_zero]at p59
           have up59:=p59
           simp only[putCells,List.length_cons,List.length_nil,agF]at up59
           try simp only[ax,seval,Zg,ax57,ax58,up59]
           refine bt (by kernel_rfl) ?_
           cases hh
           try simp only[ax,seval,q13a,q13b,q13c,q13d,q13e,q14a,q14b,q14c,q14d,q14e,ax39,hr40,Zg,ax57,ax58,ax58,p59,up59]
           apply gL
           refine⟨v1g,v6g,v7g,?_⟩
           and_intros<;>first|rfl|(simp only[ax,seval,Zg]<;>rfl)
          ·cases hh
           try simp only[ax,seval]
           apply jr
           refine⟨rfl,⟨v1g,v6g,v7g,?_⟩⟩
           and_intros<;>first|rfl|(simp only[ax,seval,Zg]<;>rfl)
         ·rintro x t H e hx
          obtain⟨l7gx,rfl⟩:∃z,z=o55:=⟨_,rfl⟩
          dsimp only at hx hh
          obtain⟨rfl,⟨v1gx,v6gx,v7gx,Zgx⟩⟩:=hx
          cases hh
          try simp only[ax,seval,Zgx]
          apply gL
          refine⟨v1gx,v6gx,v7gx,?_⟩
          and_intros<;>first|rfl|(simp only[ax,seval,Zgx]<;>rfl)
      ·cases hh
       try simp only[ax,seval]
       apply jr
       refine⟨rfl,⟨v1c,v6c,v7c,?_⟩⟩
       and_intros<;>first|rfl|(simp only[ax,seval,Zc]<;>rfl)
     ·rintro x t H e hx
      rcases o37 with⟨l6cx,l7cx⟩|rc
      ·dsimp only at hx hh
       obtain⟨rfl,⟨v1cx,v6cx,v7cx,Zcx⟩⟩:=hx
       try simp only[ax,seval,Zcx]
       obtain⟨o64,ho64,hh⟩:=ah hh
       refine ay (fun s t H e=>match s with|s102h=>∃v1h:Nat,∃v6h:Nat,∃v7h:Nat,t 1=.ptr 1 v1h 0∧t 7=.buf 7 v7h 1 0 (l7cx).length∧t 100=.buf 6 v6h 1 0 (l6cx).length∧t 101=.int .i64 ((l6cx).length:Int)∧t 102=.int .i64 s102h∧H 1=some ⟨v1h,25,[.sl false false p0.bg.length (ab (eI .i64) p0.bg),.sl false false p0.aT.length (ab cq p0.aT)],false,false,false⟩∧H 6=some ⟨v6h,3,ab (eI .i64) l6cx,false,true,false⟩∧H 7=some ⟨v7h,3,ab (eI .i64) l7cx,false,true,false⟩) (fun o x t H e=>match o with|(.inl _)=>x=.exit 8∧∃v1hx:Nat,∃v7hx:Nat,t 1=.ptr 1 v1hx 0∧t 7=.buf 7 v7hx 1 0 (l7cx).length∧H 1=some ⟨v1hx,25,[.sl false false p0.bg.length (ab (eI .i64) p0.bg),.sl false false p0.aT.length (ab cq p0.aT)],false,false,false⟩∧H 7=some ⟨v7hx,3,ab (eI .i64) l7cx,false,true,false⟩|(.inr r)=>x=.ret∧eR .clean tab none [.tmp 2,.tmp 3] ⟨t,EH H,e⟩=some (.clean (.tup [.int .i64 r.1,.int .i64 r.2]),none)) ho64 ?_ ?_ ?_
       ·refine⟨v1cx,v6cx,v7cx,?_⟩
        and_intros<;>first|rfl|(simp only[ax,seval,Zcx]<;>rfl)
       ·rintro s102h t H e ⟨v1h,v6h,v7h,Zh⟩ c hh
        simp only[xX]at hh
        try simp only[ax,seval,Zh]
        apply sp al hh<;>intro _ hh
        ·obtain⟨x66,hx66,hh⟩:=ah hh
         have ax66:=bm (eI .i64) hx66
         simp only[bN]at ax66
         try simp only[ax,seval,Zh,ax66]
         apply sp al hh<;>intro _ hh
         ·cases hh
          try simp only[ax,seval]
          refine rz ⟨rfl,?_⟩
          try simp only[ax,seval]
         ·try simp only[ax,seval]
          apply sp al hh<;>intro _ hh
          ·cases hh
           try simp only[ax,seval]
           refine rz ⟨rfl,?_⟩
           try simp only[ax,seval]
          ·cases hh
           try simp only[ax,seval,Zh]
           apply gL
           refine⟨v1h,v6h,v7h,?_⟩
           and_intros<;>first|rfl|(simp only[ax,seval,Zh]<;>rfl)
        ·cases hh
         try simp only[ax,seval]
         apply jr
         refine⟨rfl,⟨v1h,v7h,?_⟩⟩
         and_intros<;>first|rfl|(simp only[ax,seval,Zh]<;>rfl)
       ·rintro x t H e hx
        rcases o64 with _|rh
        ·dsimp only at hx hh
         obtain⟨rfl,⟨v1hx,v7hx,Zhx⟩⟩:=hx
         try simp only[ax,seval,Zhx]
         obtain⟨o73,ho73,hh⟩:=ah hh
         refine ay (fun s t H e=>match s with|s118i=>∃v1i:Nat,∃v7i:Nat,t 1=.ptr 1 v1i 0∧t 116=.buf 7 v7i 1 0 (l7cx).length∧t 117=.int .i64 ((l7cx).length:Int)∧t 118=.int .i64 s118i∧H 1=some ⟨v1i,25,[.sl false false p0.bg.length (ab (eI .i64) p0.bg),.sl false false p0.aT.length (ab cq p0.aT)],false,false,false⟩∧H 7=some ⟨v7i,3,ab (eI .i64) l7cx,false,true,false⟩) (fun o x t H e=>match o with|(.inl _)=>x=.exit 11|(.inr r)=>x=.ret∧eR .clean tab none [.tmp 2,.tmp 3] ⟨t,EH H,e⟩=some (.clean (.tup [.int .i64 r.1,.int .i64 r.2]),none)) ho73 ?_ ?_ ?_
         ·refine⟨v1hx,v7hx,?_⟩
          and_intros<;>first|rfl|(simp only[ax,seval,Zhx]<;>rfl)
         ·rintro s118i t H e ⟨v1i,v7i,Zi⟩ c hh
          simp only[xY]at hh
          try simp only[ax,seval,Zi]
          apply sp al hh<;>intro _ hh
          ·obtain⟨x75,hx75,hh⟩:=ah hh
           have ax75:=bm (eI .i64) hx75
           simp only[bN]at ax75
           obtain⟨x76,hx76,hh⟩:=ah hh
           have ax76:=bm (eI .i64) hx76
           simp only[bN]at ax76
           try simp only[ax,seval,Zi,ax75,ax76]
           apply sp al hh<;>intro _ hh
           ·cases hh
            try simp only[ax,seval]
            refine rz ⟨rfl,?_⟩
            try simp only[ax,seval]
           ·cases hh
            try simp only[ax,seval,Zi]
            apply gL
            refine⟨v1i,v7i,?_⟩
            and_intros<;>first|rfl|(simp only[ax,seval,Zi]<;>rfl)
          ·cases hh
           try simp only[ax,seval]
           apply jr
           exact rfl
         ·rintro x t H e hx
          rcases o73 with _|ri
          ·dsimp only at hx hh
           subst hx
           cases hh
           try simp only[ax,seval]
          ·dsimp only at hx hh
           obtain⟨rfl,hE⟩:=hx
           cases hh
           try simp only[aU,bd,b7,b5]
           exact hE
        ·dsimp only at hx hh
         obtain⟨rfl,hE⟩:=hx
         cases hh
         try simp only[aU,bd,b7,b5]
         exact hE
      ·dsimp only at hx hh
       obtain⟨rfl,hE⟩:=hx
       cases hh
       try simp only[aU,bd,b7,b5]
       exact hE
    ·dsimp only at hx hh
     obtain⟨rfl,hE⟩:=hx
     cases hh
     try simp only[aU,bd,b7,b5]
     exact hE
 ·clear hh
  have hh:=ho1
  try simp only[ax,seval]
  apply sp aN hh<;>intro _ hh
  ·cases hh
   try simp only[ax,seval]
   rw[an]
   refine⟨_,rfl,?_⟩
   refine⟨0,?_⟩
   and_intros<;>first|rfl|(simp only[ax,seval]<;>rfl)
  ·cases hh
   try simp only[ax,seval]
   rw[an]
   refine⟨_,rfl,?_⟩
   refine⟨0,?_⟩
   and_intros<;>first|rfl|(simp only[ax,seval]<;>rfl)
theorem ye:bP prog 19 oJ:=bP.gr (mode := .clean) tok JQ mixed func19 (by kernel_rfl) (fun _=>by kernel_rfl) (fun x r h=>NO x r h)
def yR:=fb (jO (aI .i64) (eU (aI .i64))) (fun x:Int×Int=>xE x.1 x.2) (fun r:ao×Int =>.clean (.tup [.agg [.int .i64 r.1.aZ.ae,.sl false false r.1.aZ.aa.length (ab (eI .i64) r.1.aZ.aa),.int .i64 r.1.aY.ae,.sl false false r.1.aY.aa.length (ab (eI .i64) r.1.aY.aa)],.int .i64 r.2]))
theorem Il (p0:Int) (p1:Int):yR none [.int .i64 p0,.int .i64 p1]=(xE p0 p1).map fun r:ao×Int=>(.clean (.tup [.agg [.int .i64 r.1.aZ.ae,.sl false false r.1.aZ.aa.length (ab (eI .i64) r.1.aZ.aa),.int .i64 r.1.aY.ae,.sl false false r.1.aY.aa.length (ab (eI .i64) r.1.aY.aa)],.int .i64 r.2]),none):=aJ _ _ _ (p0,p1)
def uO:Env:=(Am.ext (Am.ext a7 93 false nJ) 109 false wZ)
theorem Qs:bA prog uO:=((bA.none.add tH false).add H6 false)
theorem Wk:type_of% (ai @w<|ai @lD<|ai @yh<|@uO.eq_1):=⟨@w,@lD,@yh,@uO.eq_1⟩
theorem VB (p0:Int) (p1:Int) (r:ao×Int) (hh:xE p0 p1=some r):aW .clean tab uO FU Tryz.f107 none [.int .i64 p0,.int .i64 p1]=some (.clean (.tup [.agg [.int .i64 r.1.aZ.ae,.sl false false r.1.aZ.aa.length (ab (eI .i64) r.1.aZ.aa),.int .i64 r.1.aY.ae,.sl false false r.1.aY.aa.length (ab (eI .i64) r.1.aY.aa)],.int .i64 r.2]),none):=by
 apply aB rfl ntmps107 results107
 unfold xE at hh
 obtain⟨r1,hr1,hh⟩:=ah hh
 obtain⟨r2,hr2,hh⟩:=ah hh
 obtain⟨r3,hr3,hh⟩:=ah hh
 cases hh
 try simp only[Wk,seval,hr1,hr2,hr3]
theorem Q8:bP prog 107 yR:=bP.gr (mode := .clean) tok Qs mixed func107 (by kernel_rfl) (fun _=>by kernel_rfl) (fun x r h=>VB x.1 x.2 r h)
def wm:=fb (jO (bM aC) (eU (bM aC))) (fun x:ao×ao=>tq x.1 x.2) (fun r:ao×Int =>.clean (.tup [.agg [.int .i64 r.1.aZ.ae,.sl false false r.1.aZ.aa.length (ab (eI .i64) r.1.aZ.aa),.int .i64 r.1.aY.ae,.sl false false r.1.aY.aa.length (ab (eI .i64) r.1.aY.aa)],.int .i64 r.2]))
theorem Er (p0_0:Int) (p0_1:(List Int)) (p0_2:Int) (p0_3:(List Int)) (p1_0:Int) (p1_1:(List Int)) (p1_2:Int) (p1_3:(List Int)):wm none [.agg [.int .i64 p0_0,.sl false false p0_1.length (ab (eI .i64) p0_1),.int .i64 p0_2,.sl false false p0_3.length (ab (eI .i64) p0_3)],.agg [.int .i64 p1_0,.sl false false p1_1.length (ab (eI .i64) p1_1),.int .i64 p1_2,.sl false false p1_3.length (ab (eI .i64) p1_3)]]=(tq (ao.mk (ak.mk p0_0 p0_1) (ak.mk p0_2 p0_3)) (ao.mk (ak.mk p1_0 p1_1) (ak.mk p1_2 p1_3))).map fun r:ao×Int=>(.clean (.tup [.agg [.int .i64 r.1.aZ.ae,.sl false false r.1.aZ.aa.length (ab (eI .i64) r.1.aZ.aa),.int .i64 r.1.aY.ae,.sl false false r.1.aY.aa.length (ab (eI .i64) r.1.aY.aa)],.int .i64 r.2]),none):=aJ _ _ _ ((ao.mk (ak.mk p0_0 p0_1) (ak.mk p0_2 p0_3)),(ao.mk (ak.mk p1_0 p1_1) (ak.mk p1_2 p1_3)))
def qX:Env:=(Am.ext (Am.ext (Am.ext a7 83 false fk) 92 false kH) 93 false nJ)
theorem MC:bA prog qX:=(((bA.none.add gu false).add pJ false).add tH false)
theorem gY:type_of% (ai @w<|ai @cO<|ai @jj<|ai @lD<|@qX.eq_1):=⟨@w,@cO,@jj,@lD,@qX.eq_1⟩
theorem QL (p0:ao) (p1:ao) (r:ao×Int) (hh:tq p0 p1=some r):aW .clean tab qX FU Tryz.f38 none [.agg [.int .i64 p0.aZ.ae,.sl false false p0.aZ.aa.length (ab (eI .i64) p0.aZ.aa),.int .i64 p0.aY.ae,.sl false false p0.aY.aa.length (ab (eI .i64) p0.aY.aa)],.agg [.int .i64 p1.aZ.ae,.sl false false p1.aZ.aa.length (ab (eI .i64) p1.aZ.aa),.int .i64 p1.aY.ae,.sl false false p1.aY.aa.length (ab (eI .i64) p1.aY.aa)]]=some (.clean (.tup [.agg [.int .i64 r.1.aZ.ae,.sl false false r.1.aZ.aa.length (ab (eI .i64) r.1.aZ.aa),.int .i64 r.1.aY.ae,.sl false false r.1.aY.aa.length (ab (eI .i64) r.1.aY.aa)],.int .i64 r.2]),none):=by
 apply aB rfl ntmps38 results38
 unfold tq at hh
 obtain⟨r1,hr1,hh⟩:=ah hh
 try simp only[gY,seval,hr1]
 obtain⟨o2,ho2,hh⟩:=ah hh
 refine bs 0 (fun s t H e=>match s with|s13j1=>∃v2j1:Nat,∃v3j1:Nat,∃v4j1:Nat,t 2=.ptr 2 v2j1 0∧t 3=.ptr 3 v3j1 0∧t 4=.ptr 4 v4j1 0∧t 13=.bool s13j1∧H 2=some ⟨v2j1,42,[.int .i64 p0.aZ.ae,.sl false false p0.aZ.aa.length (ab (eI .i64) p0.aZ.aa),.int .i64 p0.aY.ae,.sl false false p0.aY.aa.length (ab (eI .i64) p0.aY.aa)],false,false,false⟩∧H 3=some ⟨v3j1,42,[.int .i64 p1.aZ.ae,.sl false false p1.aZ.aa.length (ab (eI .i64) p1.aZ.aa),.int .i64 p1.aY.ae,.sl false false p1.aY.aa.length (ab (eI .i64) p1.aY.aa)],false,false,false⟩∧H 4=some ⟨v4j1,42,[.int .i64 0,.sl true true 0 [],.int .i64 0,.sl true true 0 []],false,false,false⟩) (fun s=>s=o2) ?_ ?_
 ·rintro s13j1 t H e ⟨v2j1,v3j1,v4j1,Zj1⟩ rfl
  try dsimp only at hh
  try simp only[gY,seval,Zj1]
  apply sp al hh<;>intro _ hh
  ·cases hh
   try simp only[gY,seval,Zj1]
  ·obtain⟨r4,hr4,hh⟩:=ah hh
   obtain⟨r5,hr5,hh⟩:=ah hh
   obtain⟨r6,hr6,hh⟩:=ah hh
   try simp only[gY,seval,Zj1,hr4,hr5,hr6]
   refine bt (by kernel_rfl) ?_
   cases hh
   try simp only[seval]
 ·clear hh
  have hh:=ho2
  try simp only[gY,seval]
  apply sp aN hh<;>intro _ hh
  ·cases hh
   try simp only[gY,seval]
   rw[an]
   refine⟨_,rfl,?_⟩
   refine⟨0,0,0,?_⟩
   and_intros<;>first|rfl|(simp only[gY,seval,hr1]<;>rfl)
  ·obtain⟨r8,hr8,hh⟩:=ah hh
   cases hh
   try simp only[gY,seval,hr8]
   rw[an]
   refine⟨_,rfl,?_⟩
   refine⟨0,0,0,?_⟩
   and_intros<;>first|rfl|(simp only[gY,seval,hr1,hr8]<;>rfl)
theorem Ov:bP prog 38 wm:=bP.gr (mode := .clean) tok MC mixed func38 (by kernel_rfl) (fun _=>by kernel_rfl) (fun x r h=>QL x.1 x.2 r h)
def mD:=mkM 114 (bM aC) (jO (pE (eI .i64)) (eU (bM cq))) (fun (l:(List ((Int×Int)×ao))) (x:(List Int)×hZ)=>jK l x.1 x.2) (fun r:Unit =>.clean (.tup []))
theorem Br (p0:(List ((Int×Int)×ao))) (p1:(List Int)) (p2_0:(List kK)) (p2_1:(List BY)) (p2_2:(List (List ao))) (p2_3:(List mQ)) (p2_4:(List Int)):mD (some (.mp 0 0,⟨0,114,[.mpc (dm p0) (fa (bM aC) p0)],false,true,true⟩)) [.sl false false p1.length (ab (eI .i64) p1),.agg [.sl false false p2_0.length (ab bj p2_0),.sl false false p2_1.length (ab dW p2_1),.sl false false p2_2.length (ab (lf aC) p2_2),.sl false false p2_3.length (ab eH p2_3),.sl false false p2_4.length (ab (eI .i64) p2_4)]]=(jK p0 p1 (hZ.mk (kJ.mk p2_0 p2_1 p2_2) p2_3 p2_4)).map fun r=>(.clean (.tup []),some ⟨0,114,[.mpc (dm r.1) (fa (bM aC) r.1)],false,true,true⟩):=acx _ _ _ _ _ p0 (p1,(hZ.mk (kJ.mk p2_0 p2_1 p2_2) p2_3 p2_4))
def jT:Env:=(Am.ext (Am.ext (Am.ext (Am.ext a7 38 false wm) 39 false gM) 107 false yR) 135 false ue)
theorem zb:bA prog jT:=((((bA.none.add Ov false).add jg false).add Q8 false).add Ea false)
theorem aG:type_of% (ai @w<|ai @Er<|ai @eo<|ai @Il<|ai @u9<|@jT.eq_1):=⟨@w,@Er,@eo,@Il,@u9,@jT.eq_1⟩
theorem Bh (p0:(List ((Int×Int)×ao))) (p1:(List Int)) (p2:hZ) (r:(List ((Int×Int)×ao))×(Unit)) (hh:jK p0 p1 p2=some r):aW .clean tab jT FU Tryz.f77 (some (.mp 0 0,⟨0,114,[.mpc (dm p0) (fa (bM aC) p0)],false,true,true⟩)) [.sl false false p1.length (ab (eI .i64) p1),.agg [.sl false false p2.aF.aA.length (ab bj p2.aF.aA),.sl false false p2.aF.bh.length (ab dW p2.aF.bh),.sl false false p2.aF.ba.length (ab (lf aC) p2.aF.ba),.sl false false p2.cK.length (ab eH p2.cK),.sl false false p2.az.length (ab (eI .i64) p2.az)]]=some (.clean (.tup []),some ⟨0,114,[.mpc (dm r.1) (fa (bM aC) r.1)],false,true,true⟩):=by
 apply PA rfl ntmps77 results77
 unfold jK at hh
 try simp only[aG,seval]
 obtain⟨o36,ho36,hh⟩:=ah hh
 refine ay (fun s t H e=>match s with|(s22a,l0a)=>∃v5a:Nat,t 0=.mp 0 0∧t 1=.sl false false p1.length (ab (eI .i64) p1)∧t 5=.ptr 5 v5a 0∧t 20=.sl false false p2.aF.aA.length (ab bj p2.aF.aA)∧t 21=.int .i64 (p2.aF.aA.length:Int)∧t 22=.int .i64 s22a∧H 0=some ⟨0,114,[.mpc (dm l0a) (fa (bM aC) l0a)],false,true,true⟩∧H 5=some ⟨v5a,55,[.sl false false p2.aF.aA.length (ab bj p2.aF.aA),.sl false false p2.aF.bh.length (ab dW p2.aF.bh),.sl false false p2.aF.ba.length (ab (lf aC) p2.aF.ba),.sl false false p2.cK.length (ab eH p2.cK),.sl false false p2.az.length (ab (eI .i64) p2.az)],false,false,false⟩) (fun o x t H e=>match o with|l0ax=>x=.exit 0∧t 0=.mp 0 0∧H 0=some ⟨0,114,[.mpc (dm l0ax) (fa (bM aC) l0ax)],false,true,true⟩) ho36 ?_ ?_ ?_
 ·refine⟨1,?_⟩
  and_intros<;>first|rfl|(simp only[aG,seval]<;>rfl)
 ·rintro⟨s22a,l0a⟩ t H e ⟨v5a,Za⟩ c hh
  simp only[p5]at hh
  try simp only[aG,seval,Za]
  apply sp al hh<;>intro _ hh
  ·obtain⟨x38,hx38,hh⟩:=ah hh
   have ax38:=bm bj hx38
   simp only[bN]at ax38
   try simp only[aG,seval,Za,ax38]
   apply sp al hh<;>intro _ hh
   ·cases hh
    try simp only[aG,seval,Za]
    apply gL
    refine⟨v5a,?_⟩
    and_intros<;>first|rfl|(simp only[aG,seval,Za]<;>rfl)
   ·obtain⟨x40,hx40,hh⟩:=ah hh
    have ax40:=bm eH hx40
    simp only[bN]at ax40
    obtain⟨x41,hx41,hh⟩:=ah hh
    have ax41:=bm (eI .i64) hx41
    simp only[bN]at ax41
    obtain⟨r42,hr42,hh⟩:=ah hh
    try simp only[aG,seval,Za,ax40,ax41,hr42]
    refine bt (by kernel_rfl) ?_
    try simp only[aG,seval,Za,ax38,ax40,ax41,hr42]
    obtain⟨o57,ho57,hh⟩:=ah hh
    refine ay (fun s t H e=>match s with|(s51e,l0e)=>∃v5e:Nat,∃v8e:Nat,∃v9e:Nat,t 0=.mp 0 0∧t 1=.sl false false p1.length (ab (eI .i64) p1)∧t 5=.ptr 5 v5e 0∧t 6=.int .i64 s22a∧t 8=.ptr 8 v8e 0∧t 9=.ptr 9 v9e 0∧t 20=.sl false false p2.aF.aA.length (ab bj p2.aF.aA)∧t 21=.int .i64 (p2.aF.aA.length:Int)∧t 22=.int .i64 s22a∧t 49=.sl false false p2.aF.bh.length (ab dW p2.aF.bh)∧t 50=.int .i64 (p2.aF.bh.length:Int)∧t 51=.int .i64 s51e∧H 0=some ⟨0,114,[.mpc (dm l0e) (fa (bM aC) l0e)],false,true,true⟩∧H 5=some ⟨v5e,55,[.sl false false p2.aF.aA.length (ab bj p2.aF.aA),.sl false false p2.aF.bh.length (ab dW p2.aF.bh),.sl false false p2.aF.ba.length (ab (lf aC) p2.aF.ba),.sl false false p2.cK.length (ab eH p2.cK),.sl false false p2.az.length (ab (eI .i64) p2.az)],false,false,false⟩∧H 8=some ⟨v8e,57,[.int .i64 x40.j0,.int .i64 x40.b6],false,false,false⟩∧H 9=some ⟨v9e,42,[.int .i64 r42.1.aZ.ae,.sl false false r42.1.aZ.aa.length (ab (eI .i64) r42.1.aZ.aa),.int .i64 r42.1.aY.ae,.sl false false r42.1.aY.aa.length (ab (eI .i64) r42.1.aY.aa)],false,false,false⟩) (fun o x t H e=>match o with|l0ex=>x=.exit 2∧∃v5ex:Nat,t 0=.mp 0 0∧t 1=.sl false false p1.length (ab (eI .i64) p1)∧t 5=.ptr 5 v5ex 0∧t 20=.sl false false p2.aF.aA.length (ab bj p2.aF.aA)∧t 21=.int .i64 (p2.aF.aA.length:Int)∧t 22=.int .i64 s22a∧H 0=some ⟨0,114,[.mpc (dm l0ex) (fa (bM aC) l0ex)],false,true,true⟩∧H 5=some ⟨v5ex,55,[.sl false false p2.aF.aA.length (ab bj p2.aF.aA),.sl false false p2.aF.bh.length (ab dW p2.aF.bh),.sl false false p2.aF.ba.length (ab (lf aC) p2.aF.ba),.sl false false p2.cK.length (ab eH p2.cK),.sl false false p2.az.length (ab (eI .i64) p2.az)],false,false,false⟩) ho57 ?_ ?_ ?_
    ·refine⟨v5a,e+1+1+1,e+1+1+1+1,?_⟩
     and_intros<;>first|rfl|(simp only[aG,seval,Za]<;>rfl)
    ·rintro⟨s51e,l0e⟩ t H e ⟨v5e,v8e,v9e,Ze⟩ c hh
     simp only[p6]at hh
     try simp only[aG,seval,Ze]
     apply sp al hh<;>intro _ hh
     ·obtain⟨x59,hx59,hh⟩:=ah hh
      have ax59:=bm dW hx59
      simp only[bN]at ax59
      try simp only[aG,seval,Ze,ax59]
      obtain⟨o60,ho60,hh⟩:=ah hh
      refine bs 0 (fun s t H e=>match s with|s71j7=>∃v5j7:Nat,∃v8j7:Nat,∃v9j7:Nat,∃v12j7:Nat,t 0=.mp 0 0∧t 1=.sl false false p1.length (ab (eI .i64) p1)∧t 5=.ptr 5 v5j7 0∧t 6=.int .i64 s22a∧t 8=.ptr 8 v8j7 0∧t 9=.ptr 9 v9j7 0∧t 11=.int .i64 s51e∧t 12=.ptr 12 v12j7 0∧t 20=.sl false false p2.aF.aA.length (ab bj p2.aF.aA)∧t 21=.int .i64 (p2.aF.aA.length:Int)∧t 22=.int .i64 s22a∧t 49=.sl false false p2.aF.bh.length (ab dW p2.aF.bh)∧t 50=.int .i64 (p2.aF.bh.length:Int)∧t 51=.int .i64 s51e∧t 71=.bool s71j7∧H 0=some ⟨0,114,[.mpc (dm l0e) (fa (bM aC) l0e)],false,true,true⟩∧H 5=some ⟨v5j7,55,[.sl false false p2.aF.aA.length (ab bj p2.aF.aA),.sl false false p2.aF.bh.length (ab dW p2.aF.bh),.sl false false p2.aF.ba.length (ab (lf aC) p2.aF.ba),.sl false false p2.cK.length (ab eH p2.cK),.sl false false p2.az.length (ab (eI .i64) p2.az)],false,false,false⟩∧H 8=some ⟨v8j7,57,[.int .i64 x40.j0,.int .i64 x40.b6],false,false,false⟩∧H 9=some ⟨v9j7,42,[.int .i64 r42.1.aZ.ae,.sl false false r42.1.aZ.aa.length (ab (eI .i64) r42.1.aZ.aa),.int .i64 r42.1.aY.ae,.sl false false r42.1.aY.aa.length (ab (eI .i64) r42.1.aY.aa)],false,false,false⟩∧H 12=some ⟨v12j7,85,[.int .i64 x59.jv,.int .i64 x59.gC,.int .i64 x59.b6,.str x59.JJ],false,false,false⟩) (fun s=>s=o60) ?_ ?_
      ·rintro s71j7 t H e ⟨v5j7,v8j7,v9j7,v12j7,Zj7⟩ rfl
       try dsimp only at hh
       try simp only[aG,seval,Zj7]
       apply sp al hh<;>intro _ hh
       ·cases hh
        try simp only[aG,seval,Zj7]
        apply gL
        refine⟨v5j7,v8j7,v9j7,?_⟩
        and_intros<;>first|rfl|(simp only[aG,seval,Zj7]<;>rfl)
       ·obtain⟨x62,hx62,hh⟩:=ah hh
        have ax62:=bm (eI .i64) hx62
        simp only[bN]at ax62
        try simp only[aG,seval,ax59,Zj7,ax62]
        refine bt (by kernel_rfl) ?_
        obtain⟨x63,hx63,hh⟩:=ah hh
        have ax63:=bm (lf aC) hx63
        simp only[bN]at ax63
        obtain⟨x64,hx64,hh⟩:=ah hh
        have ax64:=bm aC hx64
        simp only[bN]at ax64
        obtain⟨r65,hr65,hh⟩:=ah hh
        try simp only[aG,seval,ax38,Zj7,ax63,ax64,hr65]
        refine bt (by kernel_rfl) ?_
        try simp only[aG,seval,ax38,ax40,ax41,hr42,ax59,Zj7,ax62,ax63,ax64,hr65]
        apply sp al hh<;>intro _ hh
        ·obtain⟨r67,hr67,hh⟩:=ah hh
         cases hh
         try simp only[aG,seval,Zj7,hr67]
         apply gL
         refine⟨v5j7,v8j7,v9j7,?_⟩
         and_intros<;>first|rfl|(simp only[aG,seval,Zj7]<;>rfl)
        ·cases hh
         try simp only[aG,seval,Zj7]
         apply gL
         refine⟨v5j7,v8j7,v9j7,?_⟩
         and_intros<;>first|rfl|(simp only[aG,seval,Zj7]<;>rfl)
      ·clear hh
       have hh:=ho60
       try simp only[aG,seval]
       apply sp aN hh<;>intro _ hh
       ·cases hh
        try simp only[aG,seval]
        rw[an]
        refine⟨_,rfl,?_⟩
        refine⟨v5e,v8e,v9e,e+1,?_⟩
        and_intros<;>first|rfl|(simp only[aG,seval,Ze]<;>rfl)
       ·obtain⟨x69,hx69,hh⟩:=ah hh
        have ax69:=bm (lf aC) hx69
        simp only[bN]at ax69
        obtain⟨x70,hx70,hh⟩:=ah hh
        have ax70:=bm aC hx70
        simp only[bN]at ax70
        obtain⟨r71,hr71,hh⟩:=ah hh
        cases hh
        try simp only[aG,seval,ax38,Ze,ax59,ax69,ax70,hr71]
        rw[an]
        refine⟨_,rfl,?_⟩
        refine⟨v5e,v8e,v9e,e+1,?_⟩
        and_intros<;>first|rfl|(simp only[aG,seval,Ze]<;>rfl)
     ·cases hh
      try simp only[aG,seval]
      apply jr
      refine⟨rfl,⟨v5e,?_⟩⟩
      and_intros<;>first|rfl|(simp only[aG,seval,Ze]<;>rfl)
    ·rintro x t H e hx
     obtain⟨l0ex,rfl⟩:∃z,z=o57:=⟨_,rfl⟩
     dsimp only at hx hh
     obtain⟨rfl,⟨v5ex,Zex⟩⟩:=hx
     cases hh
     try simp only[aG,seval,Zex]
     apply gL
     refine⟨v5ex,?_⟩
     and_intros<;>first|rfl|(simp only[aG,seval,Zex]<;>rfl)
  ·cases hh
   try simp only[aG,seval]
   apply jr
   refine⟨rfl,?_⟩
   and_intros<;>first|rfl|(simp only[aG,seval,Za]<;>rfl)
 ·rintro x t H e hx
  obtain⟨l0ax,rfl⟩:∃z,z=o36:=⟨_,rfl⟩
  dsimp only at hx hh
  obtain⟨rfl,Zax⟩:=hx
  cases hh
  try simp only[aG,seval,Zax]
theorem zi:bP prog 77 mD:=bP.Yb tok zb mixed func77 (by kernel_rfl) ⟨by kernel_rfl,by kernel_rfl⟩ (fun _=>ahB (by kernel_rfl)) (fun l x l' r h=>Bh l x.1 x.2 (l',r) h)
def qv:=fb (jO (bM aM) (eU (bM aM))) (fun x:bJ×bJ=>kd x.1 x.2) (fun r:Int =>.clean (.int .i64 r))
theorem yi (p0_0:Int) (p0_1:Int) (p0_2:Int) (p0_3:(List Int)) (p0_4:Int) (p0_5:(List Int)) (p1_0:Int) (p1_1:Int) (p1_2:Int) (p1_3:(List Int)) (p1_4:Int) (p1_5:(List Int)):qv none [.agg [.int .i64 p0_0,.int .i64 p0_1,.int .i64 p0_2,.sl false false p0_3.length (ab (eI .i64) p0_3),.int .i64 p0_4,.sl false false p0_5.length (ab (eI .i64) p0_5)],.agg [.int .i64 p1_0,.int .i64 p1_1,.int .i64 p1_2,.sl false false p1_3.length (ab (eI .i64) p1_3),.int .i64 p1_4,.sl false false p1_5.length (ab (eI .i64) p1_5)]]=(kd (bJ.mk p0_0 p0_1 (ao.mk (ak.mk p0_2 p0_3) (ak.mk p0_4 p0_5))) (bJ.mk p1_0 p1_1 (ao.mk (ak.mk p1_2 p1_3) (ak.mk p1_4 p1_5)))).map fun r:Int=>(.clean (.int .i64 r),none):=aJ _ _ _ ((bJ.mk p0_0 p0_1 (ao.mk (ak.mk p0_2 p0_3) (ak.mk p0_4 p0_5))),(bJ.mk p1_0 p1_1 (ao.mk (ak.mk p1_2 p1_3) (ak.mk p1_4 p1_5))))
def nf:Env:=(Am.ext (Am.ext a7 138 false w7) 139 false jD)
theorem Fv:bA prog nf:=((bA.none.add H7 false).add ow false)
theorem KO:type_of% (ai @w<|ai @qg<|ai @iw<|@nf.eq_1):=⟨@w,@qg,@iw,@nf.eq_1⟩
theorem J4 (p0:bJ) (p1:bJ) (r:Int) (hh:kd p0 p1=some r):aW .clean tab nf FU Tryz.f79 none [.agg [.int .i64 p0.bT,.int .i64 p0.gA,.int .i64 p0.bF.aZ.ae,.sl false false p0.bF.aZ.aa.length (ab (eI .i64) p0.bF.aZ.aa),.int .i64 p0.bF.aY.ae,.sl false false p0.bF.aY.aa.length (ab (eI .i64) p0.bF.aY.aa)],.agg [.int .i64 p1.bT,.int .i64 p1.gA,.int .i64 p1.bF.aZ.ae,.sl false false p1.bF.aZ.aa.length (ab (eI .i64) p1.bF.aZ.aa),.int .i64 p1.bF.aY.ae,.sl false false p1.bF.aY.aa.length (ab (eI .i64) p1.bF.aY.aa)]]=some (.clean (.int .i64 r),none):=by
 apply aB rfl ntmps79 results79
 unfold kd at hh
 obtain⟨r1,hr1,hh⟩:=ah hh
 obtain⟨r2,hr2,hh⟩:=ah hh
 have i3:=qg ([r1,r2])
 simp only[bo,bN,List.length_cons,agF,Nat.reduceAdd]at i3
 obtain⟨r4,hr4,hh⟩:=ah hh
 try simp only[KO,seval,hr1,hr2,i3,hr4]
 refine bt (by kernel_rfl) ?_
 cases hh
 try simp only[seval]
theorem FL:bP prog 79 qv:=bP.gr (mode := .clean) tok Fv mixed func79 (by kernel_rfl) (fun _=>by kernel_rfl) (fun x r h=>J4 x.1 x.2 r h)
def BO:=fb (eU (bM BB)) (fun x:fA=>zh x) (fun r:cu×Int =>.clean (.tup [.agg [.int .i64 r.1.az,.sl false false r.1.av.length (ab aM r.1.av)],.int .i64 r.2]))
theorem OM (p0_0:(List Int)) (p0_1:(List hZ)):BO none [.agg [.sl false false p0_0.length (ab (eI .i64) p0_0),.sl false false p0_1.length (ab cq p0_1)]]=(zh (fA.mk p0_0 p0_1)).map fun r:cu×Int=>(.clean (.tup [.agg [.int .i64 r.1.az,.sl false false r.1.av.length (ab aM r.1.av)],.int .i64 r.2]),none):=aJ _ _ _ ((fA.mk p0_0 p0_1))
def xG:Env:=(Am.vE 9 (63,6,1) (Am.ext (Am.ext a7 19 false oJ) 77 true mD))
theorem U9:bA prog xG:=(bA.vE ((bA.none.add ye false).add zi true) 9 (63,6,1))
theorem gK:type_of% (ai @w<|ai @C7<|ai @pk<|@xG.eq_1):=⟨@w,@C7,@pk,@xG.eq_1⟩
theorem Yg (p0:fA) (r:cu×Int) (hh:zh p0=some r):RU tab xG FU 5 Tryz.f21 [.agg [.sl false false p0.bg.length (ab (eI .i64) p0.bg),.sl false false p0.aT.length (ab cq p0.aT)]] (wH tab Tryz.f21.results.toList (.clean (.tup [.agg [.int .i64 r.1.az,.sl false false r.1.av.length (ab aM r.1.av)],.int .i64 r.2]),none) (adl r)):=by
 apply Wh rfl ntmps21 results21
 simp only[JL,JM]
 unfold zh at hh
 obtain⟨r1,hr1,hh⟩:=ah hh
 try simp only[gK,seval,hr1]
 apply sp al hh<;>intro _ hh
 ·cases hh
  try simp only[gK,seval]
 ·try simp only[gK,seval]
  obtain⟨o7,ho7,hh⟩:=ah hh
  refine ay (fun s t H e=>match s with|(s25a,l21a)=>∃v1a:Nat,∃v2a:Nat,∃v21a:Nat,t 1=.ptr 1 v1a 0∧t 2=.ptr 2 v2a 0∧t 6=.mp 21 v21a∧t 23=.sl false false p0.aT.length (ab cq p0.aT)∧t 24=.int .i64 (p0.aT.length:Int)∧t 25=.int .i64 s25a∧H 1=some ⟨v1a,25,[.sl false false p0.bg.length (ab (eI .i64) p0.bg),.sl false false p0.aT.length (ab cq p0.aT)],false,false,false⟩∧H 2=some ⟨v2a,28,[.int .i64 0,.sl true true 0 []],false,false,false⟩∧H 21=some ⟨v21a,114,[.mpc (dm l21a) (fa (bM aC) l21a)],false,true,true⟩) (fun o x t H e=>match o with|l21ax=>x=.exit 0∧∃v1ax:Nat,∃v2ax:Nat,∃v21ax:Nat,t 1=.ptr 1 v1ax 0∧t 2=.ptr 2 v2ax 0∧t 6=.mp 21 v21ax∧H 1=some ⟨v1ax,25,[.sl false false p0.bg.length (ab (eI .i64) p0.bg),.sl false false p0.aT.length (ab cq p0.aT)],false,false,false⟩∧H 2=some ⟨v2ax,28,[.int .i64 0,.sl true true 0 []],false,false,false⟩∧H 21=some ⟨v21ax,114,[.mpc (dm l21ax) (fa (bM aC) l21ax)],false,true,true⟩) ho7 ?_ ?_ ?_
  ·refine⟨0,0,3,?_⟩
   and_intros<;>first|rfl|(simp only[gK,seval,hr1]<;>rfl)
  ·rintro⟨s25a,l21a⟩ t H e ⟨v1a,v2a,v21a,Za⟩ c hh
   simp only[HT]at hh
   try simp only[gK,seval,Za]
   apply sp al hh<;>intro _ hh
   ·obtain⟨x9,hx9,hh⟩:=ah hh
    have ax9:=bm cq hx9
    simp only[bN]at ax9
    have i10:=Br l21a p0.bg x9.aF.aA x9.aF.bh x9.aF.ba x9.cK x9.az
    try simp only[bN]at i10
    obtain⟨r11,hr11,hh⟩:=ah hh
    cases hh
    try simp only[gK,seval,Za,ax9,i10,hr11]
    apply gL
    refine⟨v1a,v2a,v21a,?_⟩
    and_intros<;>first|rfl|(simp only[gK,seval,Za]<;>rfl)
   ·cases hh
    try simp only[gK,seval]
    apply jr
    refine⟨rfl,⟨v1a,v2a,v21a,?_⟩⟩
    and_intros<;>first|rfl|(simp only[gK,seval,Za]<;>rfl)
  ·rintro x t H e hx
   obtain⟨l21ax,rfl⟩:∃z,z=o7:=⟨_,rfl⟩
   dsimp only at hx hh
   obtain⟨rfl,⟨v1ax,v2ax,v21ax,Zax⟩⟩:=hx
   try simp only[gK,seval,Zax]
   apply sp al hh<;>intro _ hh
   ·cases hh
    try simp only[gK,seval,Zax]
   ·have bp13:bump (4*(e+1)+2) (e+1)=some (4*(e+1)+3):=WX rfl
    try simp only[gK,seval,Zax,bp13]
    rw[Fq]
    refine⟨l21ax,(p0.bg.length:Int),v21ax,e+1,v2ax,(4*(e+1)+3),?_,?_,?_,?_,?_,?_,by omega,hh⟩
    all_goals first|rfl|(simp only[gK,seval,Zax]<;>rfl)
theorem VV:bP prog 21 BO:=bP.front tok U9 mixed func21 rfl (by kernel_rfl) ⟨by kernel_rfl,by kernel_rfl⟩ (fun _=>ahB (by kernel_rfl)) (ahB (by kernel_rfl)) (fun x r h=>Yg x r h) (fun r=>Yt r)
def pB:=fb (jO (bM dx) (eU (bM dx))) (fun x:ak×ak=>kB x.1 x.2) (fun r:Bool =>.clean (.bool r))
theorem v8 (p0_0:Int) (p0_1:(List Int)) (p1_0:Int) (p1_1:(List Int)):pB none [.agg [.int .i64 p0_0,.sl false false p0_1.length (ab (eI .i64) p0_1)],.agg [.int .i64 p1_0,.sl false false p1_1.length (ab (eI .i64) p1_1)]]=(kB (ak.mk p0_0 p0_1) (ak.mk p1_0 p1_1)).map fun r:Bool=>(.clean (.bool r),none):=aJ _ _ _ ((ak.mk p0_0 p0_1),(ak.mk p1_0 p1_1))
theorem FI (p0:ak) (p1:ak) (r:Bool) (hh:kB p0 p1=some r):aW .clean tab a7 FU Tryz.f89 none [.agg [.int .i64 p0.ae,.sl false false p0.aa.length (ab (eI .i64) p0.aa)],.agg [.int .i64 p1.ae,.sl false false p1.aa.length (ab (eI .i64) p1.aa)]]=some (.clean (.bool r),none):=by
 apply aB rfl ntmps89 results89
 unfold kB at hh
 try simp only[w,seval]
 obtain⟨o1,ho1,hh⟩:=ah hh
 refine bs 0 (fun s t H e=>match s with|s19j1=>∃v2j1:Nat,∃v3j1:Nat,t 2=.ptr 2 v2j1 0∧t 3=.ptr 3 v3j1 0∧t 19=.bool s19j1∧H 2=some ⟨v2j1,40,[.int .i64 p0.ae,.sl false false p0.aa.length (ab (eI .i64) p0.aa)],false,false,false⟩∧H 3=some ⟨v3j1,40,[.int .i64 p1.ae,.sl false false p1.aa.length (ab (eI .i64) p1.aa)],false,false,false⟩) (fun s=>s=o1) ?_ ?_
 ·rintro s19j1 t H e ⟨v2j1,v3j1,Zj1⟩ rfl
  try dsimp only at hh
  try simp only[w,seval,Zj1]
  apply sp al hh<;>intro _ hh
  ·cases hh
   try simp only[w,seval]
  ·try simp only[w,seval]
   obtain⟨o7,ho7,hh⟩:=ah hh
   refine ay (fun s t H e=>match s with|s5b=>∃v2b:Nat,∃v3b:Nat,t 2=.ptr 2 v2b 0∧t 3=.ptr 3 v3b 0∧t 5=.int .i64 s5b∧H 2=some ⟨v2b,40,[.int .i64 p0.ae,.sl false false p0.aa.length (ab (eI .i64) p0.aa)],false,false,false⟩∧H 3=some ⟨v3b,40,[.int .i64 p1.ae,.sl false false p1.aa.length (ab (eI .i64) p1.aa)],false,false,false⟩) (fun o x t H e=>match o with|(.inl _)=>x=.exit 0|(.inr r)=>x=.ret∧eR .clean tab none [.tmp 4] ⟨t,EH H,e⟩=some (.clean (.bool r),none)) ho7 ?_ ?_ ?_
   ·refine⟨v2j1,v3j1,?_⟩
    and_intros<;>first|rfl|(simp only[w,seval,Zj1]<;>rfl)
   ·rintro s5b t H e ⟨v2b,v3b,Zb⟩ c hh
    simp only[tN]at hh
    try simp only[w,seval,Zb]
    apply sp al hh<;>intro _ hh
    ·obtain⟨x9,hx9,hh⟩:=ah hh
     have ax9:=bm (eI .i64) hx9
     simp only[bN]at ax9
     obtain⟨x10,hx10,hh⟩:=ah hh
     have ax10:=bm (eI .i64) hx10
     simp only[bN]at ax10
     try simp only[w,seval,Zb,ax9,ax10]
     refine bt (by kernel_rfl) ?_
     try simp only[w,seval,Zb,ax9,ax10]
     apply sp al hh<;>intro _ hh
     ·cases hh
      try simp only[w,seval]
      refine rz ⟨rfl,?_⟩
      try simp only[w,seval]
     ·cases hh
      try simp only[w,seval,Zb]
      apply gL
      refine⟨v2b,v3b,?_⟩
      and_intros<;>first|rfl|(simp only[w,seval,Zb]<;>rfl)
    ·cases hh
     try simp only[w,seval]
     apply jr
     exact rfl
   ·rintro x t H e hx
    rcases o7 with _|rb
    ·dsimp only at hx hh
     subst hx
     cases hh
     try simp only[w,seval]
    ·dsimp only at hx hh
     obtain⟨rfl,hE⟩:=hx
     cases hh
     try simp only[aU,bd,b7,b5]
     exact hE
 ·clear hh
  have hh:=ho1
  try simp only[w,seval]
  apply sp aN hh<;>intro _ hh
  ·cases hh
   try simp only[w,seval]
   rw[an]
   refine⟨_,rfl,?_⟩
   refine⟨0,0,?_⟩
   and_intros<;>first|rfl|(simp only[w,seval]<;>rfl)
  ·cases hh
   try simp only[w,seval]
   rw[an]
   refine⟨_,rfl,?_⟩
   refine⟨0,0,?_⟩
   and_intros<;>first|rfl|(simp only[w,seval]<;>rfl)
theorem Eh:bP prog 89 pB:=bP.gr (mode := .clean) tok bA.none mixed func89 (by kernel_rfl) (fun _=>by kernel_rfl) (fun x r h=>FI x.1 x.2 r h)
def qB:=fb (jO (bM aC) (eU (bM aC))) (fun x:ao×ao=>ql x.1 x.2) (fun r:Bool =>.clean (.bool r))
theorem rL (p0_0:Int) (p0_1:(List Int)) (p0_2:Int) (p0_3:(List Int)) (p1_0:Int) (p1_1:(List Int)) (p1_2:Int) (p1_3:(List Int)):qB none [.agg [.int .i64 p0_0,.sl false false p0_1.length (ab (eI .i64) p0_1),.int .i64 p0_2,.sl false false p0_3.length (ab (eI .i64) p0_3)],.agg [.int .i64 p1_0,.sl false false p1_1.length (ab (eI .i64) p1_1),.int .i64 p1_2,.sl false false p1_3.length (ab (eI .i64) p1_3)]]=(ql (ao.mk (ak.mk p0_0 p0_1) (ak.mk p0_2 p0_3)) (ao.mk (ak.mk p1_0 p1_1) (ak.mk p1_2 p1_3))).map fun r:Bool=>(.clean (.bool r),none):=aJ _ _ _ ((ao.mk (ak.mk p0_0 p0_1) (ak.mk p0_2 p0_3)),(ao.mk (ak.mk p1_0 p1_1) (ak.mk p1_2 p1_3)))
def rq:Env:=(Am.ext a7 89 false pB)
theorem MO:bA prog rq:=(bA.none.add Eh false)
theorem wW:type_of% (ai @w<|ai @v8<|@rq.eq_1):=⟨@w,@v8,@rq.eq_1⟩
theorem QZ (p0:ao) (p1:ao) (r:Bool) (hh:ql p0 p1=some r):aW .clean tab rq FU Tryz.f26 none [.agg [.int .i64 p0.aZ.ae,.sl false false p0.aZ.aa.length (ab (eI .i64) p0.aZ.aa),.int .i64 p0.aY.ae,.sl false false p0.aY.aa.length (ab (eI .i64) p0.aY.aa)],.agg [.int .i64 p1.aZ.ae,.sl false false p1.aZ.aa.length (ab (eI .i64) p1.aZ.aa),.int .i64 p1.aY.ae,.sl false false p1.aY.aa.length (ab (eI .i64) p1.aY.aa)]]=some (.clean (.bool r),none):=by
 apply aB rfl ntmps26 results26
 unfold ql at hh
 obtain⟨r1,hr1,hh⟩:=ah hh
 try simp only[wW,seval,hr1]
 apply sp cY hh<;>intro _ hh
 ·obtain⟨r3,hr3,hh⟩:=ah hh
  cases hh
  try simp only[wW,seval,hr3]
 ·cases hh
  try simp only[wW,seval]
theorem AJ:bP prog 26 qB:=bP.gr (mode := .clean) tok MO mixed func26 (by kernel_rfl) (fun _=>by kernel_rfl) (fun x r h=>QZ x.1 x.2 r h)
def wA:=fb (jO (bM pT) (eU (bM pT))) (fun x:cu×cu=>tO x.1 x.2) (fun r:Bool =>.clean (.bool r))
theorem wP (p0_0:Int) (p0_1:(List bJ)) (p1_0:Int) (p1_1:(List bJ)):wA none [.agg [.int .i64 p0_0,.sl false false p0_1.length (ab aM p0_1)],.agg [.int .i64 p1_0,.sl false false p1_1.length (ab aM p1_1)]]=(tO (cu.mk p0_0 p0_1) (cu.mk p1_0 p1_1)).map fun r:Bool=>(.clean (.bool r),none):=aJ _ _ _ ((cu.mk p0_0 p0_1),(cu.mk p1_0 p1_1))
def ru:Env:=(Am.ext a7 26 false qB)
theorem MP:bA prog ru:=(bA.none.add AJ false)
theorem bI:type_of% (ai @w<|ai @rL<|@ru.eq_1):=⟨@w,@rL,@ru.eq_1⟩
theorem Q0 (p0:cu) (p1:cu) (r:Bool) (hh:tO p0 p1=some r):aW .clean tab ru FU Tryz.f23 none [.agg [.int .i64 p0.az,.sl false false p0.av.length (ab aM p0.av)],.agg [.int .i64 p1.az,.sl false false p1.av.length (ab aM p1.av)]]=some (.clean (.bool r),none):=by
 apply aB rfl ntmps23 results23
 unfold tO at hh
 try simp only[bI,seval]
 obtain⟨o1,ho1,hh⟩:=ah hh
 refine bs 0 (fun s t H e=>match s with|s19j1=>∃v2j1:Nat,∃v3j1:Nat,t 2=.ptr 2 v2j1 0∧t 3=.ptr 3 v3j1 0∧t 19=.bool s19j1∧H 2=some ⟨v2j1,28,[.int .i64 p0.az,.sl false false p0.av.length (ab aM p0.av)],false,false,false⟩∧H 3=some ⟨v3j1,28,[.int .i64 p1.az,.sl false false p1.av.length (ab aM p1.av)],false,false,false⟩) (fun s=>s=o1) ?_ ?_
 ·rintro s19j1 t H e ⟨v2j1,v3j1,Zj1⟩ rfl
  try dsimp only at hh
  try simp only[bI,seval,Zj1]
  apply sp al hh<;>intro _ hh
  ·cases hh
   try simp only[bI,seval]
  ·try simp only[bI,seval]
   obtain⟨o10,ho10,hh⟩:=ah hh
   refine ay (fun s t H e=>match s with|s5b=>∃v2b:Nat,∃v3b:Nat,t 2=.ptr 2 v2b 0∧t 3=.ptr 3 v3b 0∧t 5=.int .i64 s5b∧H 2=some ⟨v2b,28,[.int .i64 p0.az,.sl false false p0.av.length (ab aM p0.av)],false,false,false⟩∧H 3=some ⟨v3b,28,[.int .i64 p1.az,.sl false false p1.av.length (ab aM p1.av)],false,false,false⟩) (fun o x t H e=>match o with|(.inl _)=>x=.exit 0|(.inr r)=>x=.ret∧eR .clean tab none [.tmp 4] ⟨t,EH H,e⟩=some (.clean (.bool r),none)) ho10 ?_ ?_ ?_
   ·refine⟨v2j1,v3j1,?_⟩
    and_intros<;>first|rfl|(simp only[bI,seval,Zj1]<;>rfl)
   ·rintro s5b t H e ⟨v2b,v3b,Zb⟩ c hh
    simp only[AW]at hh
    try simp only[bI,seval,Zb]
    apply sp al hh<;>intro _ hh
    ·obtain⟨x12,hx12,hh⟩:=ah hh
     have ax12:=bm aM hx12
     simp only[bN]at ax12
     obtain⟨x13,hx13,hh⟩:=ah hh
     have ax13:=bm aM hx13
     simp only[bN]at ax13
     try simp only[bI,seval,Zb,ax12,ax13]
     apply sp mC hh<;>intro _ hh
     ·try simp only[bI,seval]
      refine bt (by kernel_rfl) ?_
      cases hh
      try simp only[bI,seval,Zb,ax12,ax13]
      refine rz ⟨rfl,?_⟩
      try simp only[bI,seval]
     ·have ax12:=bm aM hx12
      simp only[bN]at ax12
      have ax13:=bm aM hx13
      simp only[bN]at ax13
      try simp only[bI,seval,Zb,ax12,ax13]
      apply sp mC hh<;>intro _ hh
      ·try simp only[bI,seval]
       refine bt (by kernel_rfl) ?_
       cases hh
       try simp only[bI,seval,Zb,ax12,ax13,ax12,ax13]
       refine rz ⟨rfl,?_⟩
       try simp only[bI,seval]
      ·have ax12:=bm aM hx12
       simp only[bN]at ax12
       have ax13:=bm aM hx13
       simp only[bN]at ax13
       obtain⟨r16,hr16,hh⟩:=ah hh
       try simp only[bI,seval,Zb,ax12,ax13,hr16]
       refine bt (by kernel_rfl) ?_
       try simp only[bI,seval,Zb,ax12,ax13,ax12,ax13,ax12,ax13,hr16]
       apply sp al hh<;>intro _ hh
       ·cases hh
        try simp only[bI,seval]
        refine rz ⟨rfl,?_⟩
        try simp only[bI,seval]
       ·cases hh
        try simp only[bI,seval,Zb]
        apply gL
        refine⟨v2b,v3b,?_⟩
        and_intros<;>first|rfl|(simp only[bI,seval,Zb]<;>rfl)
    ·cases hh
     try simp only[bI,seval]
     apply jr
     exact rfl
   ·rintro x t H e hx
    rcases o10 with _|rb
    ·dsimp only at hx hh
     subst hx
     cases hh
     try simp only[bI,seval]
    ·dsimp only at hx hh
     obtain⟨rfl,hE⟩:=hx
     cases hh
     try simp only[aU,bd,b7,b5]
     exact hE
 ·clear hh
  have hh:=ho1
  try simp only[bI,seval]
  apply sp aN hh<;>intro _ hh
  ·cases hh
   try simp only[bI,seval]
   rw[an]
   refine⟨_,rfl,?_⟩
   refine⟨0,0,?_⟩
   and_intros<;>first|rfl|(simp only[bI,seval]<;>rfl)
  ·cases hh
   try simp only[bI,seval]
   rw[an]
   refine⟨_,rfl,?_⟩
   refine⟨0,0,?_⟩
   and_intros<;>first|rfl|(simp only[bI,seval]<;>rfl)
theorem OC:bP prog 23 wA:=bP.gr (mode := .clean) tok MP mixed func23 (by kernel_rfl) (fun _=>by kernel_rfl) (fun x r h=>Q0 x.1 x.2 r h)
def wo:=fb (jO (bM aC) (eU (bM aC))) (fun x:ao×ao=>oa x.1 x.2) (fun r:ao×Int =>.clean (.tup [.agg [.int .i64 r.1.aZ.ae,.sl false false r.1.aZ.aa.length (ab (eI .i64) r.1.aZ.aa),.int .i64 r.1.aY.ae,.sl false false r.1.aY.aa.length (ab (eI .i64) r.1.aY.aa)],.int .i64 r.2]))
theorem Es (p0_0:Int) (p0_1:(List Int)) (p0_2:Int) (p0_3:(List Int)) (p1_0:Int) (p1_1:(List Int)) (p1_2:Int) (p1_3:(List Int)):wo none [.agg [.int .i64 p0_0,.sl false false p0_1.length (ab (eI .i64) p0_1),.int .i64 p0_2,.sl false false p0_3.length (ab (eI .i64) p0_3)],.agg [.int .i64 p1_0,.sl false false p1_1.length (ab (eI .i64) p1_1),.int .i64 p1_2,.sl false false p1_3.length (ab (eI .i64) p1_3)]]=(oa (ao.mk (ak.mk p0_0 p0_1) (ak.mk p0_2 p0_3)) (ao.mk (ak.mk p1_0 p1_1) (ak.mk p1_2 p1_3))).map fun r:ao×Int=>(.clean (.tup [.agg [.int .i64 r.1.aZ.ae,.sl false false r.1.aZ.aa.length (ab (eI .i64) r.1.aZ.aa),.int .i64 r.1.aY.ae,.sl false false r.1.aY.aa.length (ab (eI .i64) r.1.aY.aa)],.int .i64 r.2]),none):=aJ _ _ _ ((ao.mk (ak.mk p0_0 p0_1) (ak.mk p0_2 p0_3)),(ao.mk (ak.mk p1_0 p1_1) (ak.mk p1_2 p1_3)))
def qZ:Env:=(Am.ext (Am.ext (Am.ext a7 36 false qq) 83 false fk) 90 false tZ)
theorem ME:bA prog qZ:=(((bA.none.add AE false).add gu false).add D3 false)
theorem gZ:type_of% (ai @w<|ai @rH<|ai @cO<|ai @u5<|@qZ.eq_1):=⟨@w,@rH,@cO,@u5,@qZ.eq_1⟩
theorem QN (p0:ao) (p1:ao) (r:ao×Int) (hh:oa p0 p1=some r):aW .clean tab qZ FU Tryz.f35 none [.agg [.int .i64 p0.aZ.ae,.sl false false p0.aZ.aa.length (ab (eI .i64) p0.aZ.aa),.int .i64 p0.aY.ae,.sl false false p0.aY.aa.length (ab (eI .i64) p0.aY.aa)],.agg [.int .i64 p1.aZ.ae,.sl false false p1.aZ.aa.length (ab (eI .i64) p1.aZ.aa),.int .i64 p1.aY.ae,.sl false false p1.aY.aa.length (ab (eI .i64) p1.aY.aa)]]=some (.clean (.tup [.agg [.int .i64 r.1.aZ.ae,.sl false false r.1.aZ.aa.length (ab (eI .i64) r.1.aZ.aa),.int .i64 r.1.aY.ae,.sl false false r.1.aY.aa.length (ab (eI .i64) r.1.aY.aa)],.int .i64 r.2]),none):=by
 apply aB rfl ntmps35 results35
 unfold oa at hh
 obtain⟨r1,hr1,hh⟩:=ah hh
 try simp only[gZ,seval,hr1]
 obtain⟨o2,ho2,hh⟩:=ah hh
 refine bs 0 (fun s t H e=>match s with|s13j1=>∃v2j1:Nat,∃v3j1:Nat,∃v4j1:Nat,t 2=.ptr 2 v2j1 0∧t 3=.ptr 3 v3j1 0∧t 4=.ptr 4 v4j1 0∧t 13=.bool s13j1∧H 2=some ⟨v2j1,42,[.int .i64 p0.aZ.ae,.sl false false p0.aZ.aa.length (ab (eI .i64) p0.aZ.aa),.int .i64 p0.aY.ae,.sl false false p0.aY.aa.length (ab (eI .i64) p0.aY.aa)],false,false,false⟩∧H 3=some ⟨v3j1,42,[.int .i64 p1.aZ.ae,.sl false false p1.aZ.aa.length (ab (eI .i64) p1.aZ.aa),.int .i64 p1.aY.ae,.sl false false p1.aY.aa.length (ab (eI .i64) p1.aY.aa)],false,false,false⟩∧H 4=some ⟨v4j1,42,[.int .i64 0,.sl true true 0 [],.int .i64 0,.sl true true 0 []],false,false,false⟩) (fun s=>s=o2) ?_ ?_
 ·rintro s13j1 t H e ⟨v2j1,v3j1,v4j1,Zj1⟩ rfl
  try dsimp only at hh
  try simp only[gZ,seval,Zj1]
  apply sp al hh<;>intro _ hh
  ·cases hh
   try simp only[gZ,seval,Zj1]
  ·obtain⟨r4,hr4,hh⟩:=ah hh
   obtain⟨r5,hr5,hh⟩:=ah hh
   try simp only[gZ,seval,Zj1,hr4,hr5]
   refine bt (by kernel_rfl) ?_
   cases hh
   try simp only[seval]
 ·clear hh
  have hh:=ho2
  try simp only[gZ,seval]
  apply sp aN hh<;>intro _ hh
  ·cases hh
   try simp only[gZ,seval]
   rw[an]
   refine⟨_,rfl,?_⟩
   refine⟨0,0,0,?_⟩
   and_intros<;>first|rfl|(simp only[gZ,seval,hr1]<;>rfl)
  ·obtain⟨r7,hr7,hh⟩:=ah hh
   cases hh
   try simp only[gZ,seval,hr7]
   rw[an]
   refine⟨_,rfl,?_⟩
   refine⟨0,0,0,?_⟩
   and_intros<;>first|rfl|(simp only[gZ,seval,hr1,hr7]<;>rfl)
theorem Ow:bP prog 35 wo:=bP.gr (mode := .clean) tok ME mixed func35 (by kernel_rfl) (fun _=>by kernel_rfl) (fun x r h=>QN x.1 x.2 r h)
def l7:=fb (eU (bM pT)) (fun x:cu=>jf x) (fun r:(List ao) =>.clean (.sl false false r.length (ab aC r)))
theorem ky (p0_0:Int) (p0_1:(List bJ)):l7 none [.agg [.int .i64 p0_0,.sl false false p0_1.length (ab aM p0_1)]]=(jf (cu.mk p0_0 p0_1)).map fun r:(List ao)=>(.clean (.sl false false r.length (ab aC r)),none):=aJ _ _ _ ((cu.mk p0_0 p0_1))
def oX:Env:=(Am.ext (Am.ext a7 35 false wo) 52 false qt)
theorem JT:bA prog oX:=((bA.none.add Ow false).add AF false)
theorem cI:type_of% (ai @w<|ai @Es<|ai @rI<|@oX.eq_1):=⟨@w,@Es,@rI,@oX.eq_1⟩
theorem NR (p0:cu) (r:(List ao)) (hh:jf p0=some r):aW .clean tab oX FU Tryz.f85 none [.agg [.int .i64 p0.az,.sl false false p0.av.length (ab aM p0.av)]]=some (.clean (.sl false false r.length (ab aC r)),none):=by
 apply aB rfl ntmps85 results85
 unfold jf at hh
 obtain⟨x1,hx1,hh⟩:=ah hh
 obtain⟨q2a,q2b,q2c,q2d,q2e⟩:=mk_one aC hx1
 simp only[bN]at q2d
 try simp only[cI,seval,q2a,q2b,q2c,q2d,q2e]
 obtain⟨o7,ho7,hh⟩:=ah hh
 refine ay (fun s t H e=>match s with|(s12a,l3a)=>∃v1a:Nat,∃v3a:Nat,t 1=.ptr 1 v1a 0∧t 3=.buf 3 v3a 4 0 (l3a).length∧t 11=.int .i64 ((x1).length:Int)∧t 12=.int .i64 s12a∧H 1=some ⟨v1a,28,[.int .i64 p0.az,.sl false false p0.av.length (ab aM p0.av)],false,false,false⟩∧H 3=some ⟨v3a,42,ab aC l3a,false,true,false⟩) (fun o x t H e=>match o with|l3ax=>x=.exit 0∧∃v1ax:Nat,∃v3ax:Nat,t 1=.ptr 1 v1ax 0∧t 3=.buf 3 v3ax 4 0 (l3ax).length∧H 1=some ⟨v1ax,28,[.int .i64 p0.az,.sl false false p0.av.length (ab aM p0.av)],false,false,false⟩∧H 3=some ⟨v3ax,42,ab aC l3ax,false,true,false⟩) ho7 ?_ ?_ ?_
 ·refine⟨0,1,?_⟩
  and_intros<;>first|rfl|(simp only[cI,seval,q2a,q2b,q2c,q2d,q2e]<;>rfl)
 ·rintro⟨s12a,l3a⟩ t H e ⟨v1a,v3a,Za⟩ c hh
  simp only[kV]at hh
  try simp only[cI,seval,Za]
  apply sp al hh<;>intro _ hh
  ·obtain⟨r9,hr9,hh⟩:=ah hh
   obtain⟨x10,hx10,hh⟩:=ah hh
   have ax10:=bm aC hx10
   simp only[bN]at ax10
   have p11:=eZ aC (x':=r9) (fo:=0) (cs:=[.int .i64 r9.aZ.ae,.sl false false r9.aZ.aa.length (ab (eI .i64) r9.aZ.aa),.int .i64 r9.aY.ae,.sl false false r9.aY.aa.length (ab (eI .i64) r9.aY.aa)]) hx10 rfl (ahB rfl)
   simp only[bN,Nat.add_zero]at p11
   have up11:=p11
   simp only[putCells,List.length_cons,List.length_nil,agF,Nat.reduceAdd]at up11
   cases hh
   try simp only[cI,seval,Za,hr9,ax10,up11]
   apply gL
   refine⟨v1a,v3a,?_⟩
   and_intros<;>first|rfl|(simp only[cI,seval,Za]<;>rfl)
  ·cases hh
   try simp only[cI,seval]
   apply jr
   refine⟨rfl,⟨v1a,v3a,?_⟩⟩
   and_intros<;>first|rfl|(simp only[cI,seval,Za]<;>rfl)
 ·rintro x t H e hx
  obtain⟨l3ax,rfl⟩:∃z,z=o7:=⟨_,rfl⟩
  dsimp only at hx hh
  obtain⟨rfl,⟨v1ax,v3ax,Zax⟩⟩:=hx
  try simp only[cI,seval,Zax]
  obtain⟨o17,ho17,hh⟩:=ah hh
  refine ay (fun s t H e=>match s with|(s23b,l3b)=>∃v3b:Nat,t 3=.buf 3 v3b 4 0 (l3b).length∧t 21=.sl false false p0.av.length (ab aM p0.av)∧t 22=.int .i64 (p0.av.length:Int)∧t 23=.int .i64 s23b∧H 3=some ⟨v3b,42,ab aC l3b,false,true,false⟩) (fun o x t H e=>match o with|l3bx=>x=.exit 2∧∃v3bx:Nat,t 3=.buf 3 v3bx 4 0 (l3bx).length∧H 3=some ⟨v3bx,42,ab aC l3bx,false,true,false⟩) ho17 ?_ ?_ ?_
  ·refine⟨v3ax,?_⟩
   and_intros<;>first|rfl|(simp only[cI,seval,Zax]<;>rfl)
  ·rintro⟨s23b,l3b⟩ t H e ⟨v3b,Zb⟩ c hh
   simp only[kW]at hh
   try simp only[cI,seval,Zb]
   apply sp al hh<;>intro _ hh
   ·obtain⟨x19,hx19,hh⟩:=ah hh
    have ax19:=bm aM hx19
    simp only[bN]at ax19
    obtain⟨x20,hx20,hh⟩:=ah hh
    have ax20:=bm aC hx20
    simp only[bN]at ax20
    obtain⟨r21,hr21,hh⟩:=ah hh
    have ax20:=bm aC hx20
    simp only[bN]at ax20
    have p22:=eZ aC (x':=r21.1) (fo:=0) (cs:=[.int .i64 r21.1.aZ.ae,.sl false false r21.1.aZ.aa.length (ab (eI .i64) r21.1.aZ.aa),.int .i64 r21.1.aY.ae,.sl false false r21.1.aY.aa.length (ab (eI .i64) r21.1.aY.aa)]) hx20 rfl (ahB rfl)
    simp only[bN,Nat.add_zero]at p22
    have up22:=p22
    simp only[putCells,List.length_cons,List.length_nil,agF,Nat.reduceAdd]at up22
    try simp only[cI,seval,Zb,ax19,hr21,ax20,up22]
    refine bt (by kernel_rfl) ?_
    cases hh
    try simp only[cI,seval,q2a,q2b,q2c,q2d,q2e,Zb,ax19,ax20,hr21,ax20,p22,up22]
    apply gL
    refine⟨v3b,?_⟩
    and_intros<;>first|rfl|(simp only[cI,seval,Zb]<;>rfl)
   ·cases hh
    try simp only[cI,seval]
    apply jr
    refine⟨rfl,⟨v3b,?_⟩⟩
    and_intros<;>first|rfl|(simp only[cI,seval,Zb]<;>rfl)
  ·rintro x t H e hx
   obtain⟨l3bx,rfl⟩:∃z,z=o17:=⟨_,rfl⟩
   dsimp only at hx hh
   obtain⟨rfl,⟨v3bx,Zbx⟩⟩:=hx
   cases hh
   try simp only[cI,seval,Zbx]
theorem rD:bP prog 85 l7:=bP.gr (mode := .clean) tok JT mixed func85 (by kernel_rfl) (fun _=>by kernel_rfl) (fun x r h=>NR x r h)
def py:=fb (eU (bM aC)) (fun x:ao=>kq x) (fun r:Bool =>.clean (.bool r))
theorem vY (p0_0:Int) (p0_1:(List Int)) (p0_2:Int) (p0_3:(List Int)):py none [.agg [.int .i64 p0_0,.sl false false p0_1.length (ab (eI .i64) p0_1),.int .i64 p0_2,.sl false false p0_3.length (ab (eI .i64) p0_3)]]=(kq (ao.mk (ak.mk p0_0 p0_1) (ak.mk p0_2 p0_3))).map fun r:Bool=>(.clean (.bool r),none):=aJ _ _ _ ((ao.mk (ak.mk p0_0 p0_1) (ak.mk p0_2 p0_3)))
def lR:Env:=(Am.ext a7 39 false gM)
theorem De:bA prog lR:=(bA.none.add jg false)
theorem F2:type_of% (ai @w<|ai @eo<|@lR.eq_1):=⟨@w,@eo,@lR.eq_1⟩
theorem FE (p0:ao) (r:Bool) (hh:kq p0=some r):aW .clean tab lR FU Tryz.f86 none [.agg [.int .i64 p0.aZ.ae,.sl false false p0.aZ.aa.length (ab (eI .i64) p0.aZ.aa),.int .i64 p0.aY.ae,.sl false false p0.aY.aa.length (ab (eI .i64) p0.aY.aa)]]=some (.clean (.bool r),none):=by
 apply aB rfl ntmps86 results86
 unfold kq at hh
 obtain⟨r1,hr1,hh⟩:=ah hh
 cases hh
 try simp only[F2,seval,hr1]
theorem D9:bP prog 86 py:=bP.gr (mode := .clean) tok De mixed func86 (by kernel_rfl) (fun _=>by kernel_rfl) (fun x r h=>FE x r h)
def eB:=fb (jO (pE aC) (eU (aFn 86))) (fun x:(List ao)×Unit=>b4 x.1) (fun r:Int =>.clean (.int .i64 r))
theorem gI (p0:(List ao)):eB none [.sl false false p0.length (ab aC p0),.fn 86]=(b4 p0).map fun r:Int=>(.clean (.int .i64 r),none):=aJ _ _ _ (p0,())
def dj:Env:=(Am.ext a7 86 false py)
theorem lj:bA prog dj:=(bA.none.add D9 false)
theorem a8:type_of% (ai @w<|ai @vY<|@dj.eq_1):=⟨@w,@vY,@dj.eq_1⟩
theorem lB (p0:(List ao)) (r:Int) (hh:b4 p0=some r):aW .clean tab dj FU Tryz.f143 none [.sl false false p0.length (ab aC p0),.fn 86]=some (.clean (.int .i64 r),none):=by
 apply aB rfl ntmps143 results143
 unfold b4 at hh
 try simp only[a8,seval]
 obtain⟨o5,ho5,hh⟩:=ah hh
 refine ay (fun s t H e=>match s with|s8a=>t 0=.sl false false p0.length (ab aC p0)∧t 1=.fn 86∧t 7=.int .i64 (p0.length:Int)∧t 8=.int .i64 s8a) (fun o x t H e=>match o with|(.inl _)=>x=.exit 0|(.inr r)=>x=.ret∧eR .clean tab none [.tmp 4] ⟨t,EH H,e⟩=some (.clean (.int .i64 r),none)) ho5 ?_ ?_ ?_
 ·and_intros<;>first|rfl|(simp only[a8,seval]<;>rfl)
 ·rintro s8a t H e Za c hh
  simp only[cX]at hh
  try simp only[a8,seval,Za]
  apply sp al hh<;>intro _ hh
  ·obtain⟨x7,hx7,hh⟩:=ah hh
   have ax7:=bm aC hx7
   simp only[bN]at ax7
   obtain⟨r8,hr8,hh⟩:=ah hh
   try simp only[a8,seval,Za,ax7,hr8]
   apply sp al hh<;>intro _ hh
   ·cases hh
    try simp only[a8,seval]
    refine rz ⟨rfl,?_⟩
    try simp only[a8,seval]
   ·cases hh
    try simp only[a8,seval,Za]
    apply gL
    and_intros<;>first|rfl|(simp only[a8,seval,Za]<;>rfl)
  ·cases hh
   try simp only[a8,seval]
   apply jr
   exact rfl
 ·rintro x t H e hx
  rcases o5 with _|ra
  ·dsimp only at hx hh
   subst hx
   cases hh
   try simp only[a8,seval]
  ·dsimp only at hx hh
   obtain⟨rfl,hE⟩:=hx
   cases hh
   try simp only[aU,bd,b7,b5]
   exact hE
theorem lk:bP prog 143 eB:=bP.gr (mode := .clean) tok lj mixed func143 (by kernel_rfl) (fun _=>by kernel_rfl) (fun x r h=>lB x.1 r h)
def dS:=fb (jO (pE aC) (eU (aFn 86))) (fun x:(List ao)×Unit=>bC x.1) (fun r:Bool =>.clean (.bool r))
theorem fL (p0:(List ao)):dS none [.sl false false p0.length (ab aC p0),.fn 86]=(bC p0).map fun r:Bool=>(.clean (.bool r),none):=aJ _ _ _ (p0,())
def cD:Env:=(Am.ext a7 143 false eB)
theorem j9:bA prog cD:=(bA.none.add lk false)
theorem kG:type_of% (ai @w<|ai @gI<|@cD.eq_1):=⟨@w,@gI,@cD.eq_1⟩
theorem kD (p0:(List ao)) (r:Bool) (hh:bC p0=some r):aW .clean tab cD FU Tryz.f84 none [.sl false false p0.length (ab aC p0),.fn 86]=some (.clean (.bool r),none):=by
 apply aB rfl ntmps84 results84
 unfold bC at hh
 obtain⟨r1,hr1,hh⟩:=ah hh
 cases hh
 try simp only[kG,seval,hr1]
theorem ke:bP prog 84 dS:=bP.gr (mode := .clean) tok j9 mixed func84 (by kernel_rfl) (fun _=>by kernel_rfl) (fun x r h=>kD x.1 r h)
def kj:=fb (eU (bM pT)) (fun x:cu=>gG x) (fun r:Bool =>.clean (.bool r))
theorem gR (p0_0:Int) (p0_1:(List bJ)):kj none [.agg [.int .i64 p0_0,.sl false false p0_1.length (ab aM p0_1)]]=(gG (cu.mk p0_0 p0_1)).map fun r:Bool=>(.clean (.bool r),none):=aJ _ _ _ ((cu.mk p0_0 p0_1))
def oW:Env:=(Am.ext (Am.ext (Am.ext (Am.ext (Am.ext (Am.ext a7 39 false gM) 71 false fV) 79 false qv) 83 false fk) 84 false dS) 85 false l7)
theorem JS:bA prog oW:=((((((bA.none.add jg false).add ir false).add FL false).add gu false).add ke false).add rD false)
theorem aL:type_of% (ai @w<|ai @eo<|ai @dJ<|ai @yi<|ai @cO<|ai @fL<|ai @ky<|@oW.eq_1):=⟨@w,@eo,@dJ,@yi,@cO,@fL,@ky,@oW.eq_1⟩
theorem NQ (p0:cu) (r:Bool) (hh:gG p0=some r):aW .clean tab oW FU Tryz.f24 none [.agg [.int .i64 p0.az,.sl false false p0.av.length (ab aM p0.av)]]=some (.clean (.bool r),none):=by
 apply aB rfl ntmps24 results24
 unfold gG at hh
 obtain⟨r1,hr1,hh⟩:=ah hh
 try simp only[aL,seval,hr1]
 obtain⟨o2,ho2,hh⟩:=ah hh
 refine bs 0 (fun s t H e=>match s with|s14j1=>∃v1j1:Nat,t 1=.ptr 1 v1j1 0∧t 14=.bool s14j1∧H 1=some ⟨v1j1,28,[.int .i64 p0.az,.sl false false p0.av.length (ab aM p0.av)],false,false,false⟩) (fun s=>s=o2) ?_ ?_
 ·rintro s14j1 t H e ⟨v1j1,Zj1⟩ rfl
  try dsimp only at hh
  try simp only[aL,seval,Zj1]
  apply sp al hh<;>intro _ hh
  ·cases hh
   try simp only[aL,seval]
  ·try simp only[aL,seval,Zj1]
   obtain⟨o19,ho19,hh⟩:=ah hh
   refine ay (fun s t H e=>match s with|s18b=>∃v1b:Nat,t 1=.ptr 1 v1b 0∧t 16=.sl false false p0.av.length (ab aM p0.av)∧t 17=.int .i64 (p0.av.length:Int)∧t 18=.int .i64 s18b∧H 1=some ⟨v1b,28,[.int .i64 p0.az,.sl false false p0.av.length (ab aM p0.av)],false,false,false⟩) (fun o x t H e=>match o with|(.inl _)=>x=.exit 0∧∃v1bx:Nat,t 1=.ptr 1 v1bx 0∧H 1=some ⟨v1bx,28,[.int .i64 p0.az,.sl false false p0.av.length (ab aM p0.av)],false,false,false⟩|(.inr r)=>x=.ret∧eR .clean tab none [.tmp 2] ⟨t,EH H,e⟩=some (.clean (.bool r),none)) ho19 ?_ ?_ ?_
   ·refine⟨v1j1,?_⟩
    and_intros<;>first|rfl|(simp only[aL,seval,Zj1]<;>rfl)
   ·rintro s18b t H e ⟨v1b,Zb⟩ c hh
    simp only[kU]at hh
    try simp only[aL,seval,Zb]
    apply sp al hh<;>intro _ hh
    ·obtain⟨x21,hx21,hh⟩:=ah hh
     have ax21:=bm aM hx21
     simp only[bN]at ax21
     obtain⟨r22,hr22,hh⟩:=ah hh
     try simp only[aL,seval,Zb,ax21,hr22]
     obtain⟨o23,ho23,hh⟩:=ah hh
     refine bs 0 (fun s t H e=>match s with|s50j4=>∃v1j4:Nat,∃v4j4:Nat,t 1=.ptr 1 v1j4 0∧t 3=.int .i64 s18b∧t 4=.ptr 4 v4j4 0∧t 16=.sl false false p0.av.length (ab aM p0.av)∧t 17=.int .i64 (p0.av.length:Int)∧t 18=.int .i64 s18b∧t 50=.bool s50j4∧H 1=some ⟨v1j4,28,[.int .i64 p0.az,.sl false false p0.av.length (ab aM p0.av)],false,false,false⟩∧H 4=some ⟨v4j4,63,[.int .i64 x21.bT,.int .i64 x21.gA,.int .i64 x21.bF.aZ.ae,.sl false false x21.bF.aZ.aa.length (ab (eI .i64) x21.bF.aZ.aa),.int .i64 x21.bF.aY.ae,.sl false false x21.bF.aY.aa.length (ab (eI .i64) x21.bF.aY.aa)],false,false,false⟩) (fun s=>s=o23) ?_ ?_
     ·rintro s50j4 t H e ⟨v1j4,v4j4,Zj4⟩ rfl
      try dsimp only at hh
      try simp only[aL,seval,Zj4]
      apply sp al hh<;>intro _ hh
      ·cases hh
       try simp only[aL,seval]
       refine rz ⟨rfl,?_⟩
       try simp only[aL,seval]
      ·try simp only[aL,seval,Zj4]
       apply sp KG hh<;>intro _ hh
       ·obtain⟨x26,hx26,hh⟩:=ah hh
        have ax26:=bm aM hx26
        simp only[bN]at ax26
        obtain⟨r27,hr27,hh⟩:=ah hh
        try simp only[aL,seval,Zj4,ax26,hr27]
        refine bt (by kernel_rfl) ?_
        try simp only[aL,seval,hr1,ax21,hr22,Zj4,ax26,hr27]
        apply sp al hh<;>intro _ hh
        ·cases hh
         try simp only[aL,seval]
         refine rz ⟨rfl,?_⟩
         try simp only[aL,seval]
        ·cases hh
         try simp only[aL,seval,Zj4]
         apply gL
         refine⟨v1j4,?_⟩
         and_intros<;>first|rfl|(simp only[aL,seval,Zj4]<;>rfl)
       ·try simp only[aL,seval,Zj4]
        refine bt (by kernel_rfl) ?_
        cases hh
        try simp only[aL,seval,hr1,ax21,hr22,Zj4]
        apply gL
        refine⟨v1j4,?_⟩
        and_intros<;>first|rfl|(simp only[aL,seval,Zj4]<;>rfl)
     ·clear hh
      have hh:=ho23
      try simp only[aL,seval]
      apply sp aN hh<;>intro _ hh
      ·cases hh
       try simp only[aL,seval]
       rw[an]
       refine⟨_,rfl,?_⟩
       refine⟨v1b,e+1,?_⟩
       and_intros<;>first|rfl|(simp only[aL,seval,Zb]<;>rfl)
      ·obtain⟨r30,hr30,hh⟩:=ah hh
       try simp only[aL,seval,Zb,hr30]
       apply sp aN hh<;>intro _ hh
       ·cases hh
        try simp only[aL,seval]
        rw[an]
        refine⟨_,rfl,?_⟩
        refine⟨v1b,e+1,?_⟩
        and_intros<;>first|rfl|(simp only[aL,seval,Zb]<;>rfl)
       ·obtain⟨r32,hr32,hh⟩:=ah hh
        try simp only[aL,seval,hr32]
        apply sp aN hh<;>intro _ hh
        ·cases hh
         try simp only[aL,seval]
         rw[an]
         refine⟨_,rfl,?_⟩
         refine⟨v1b,e+1,?_⟩
         and_intros<;>first|rfl|(simp only[aL,seval,Zb]<;>rfl)
        ·obtain⟨r34,hr34,hh⟩:=ah hh
         cases hh
         try simp only[aL,seval,hr34]
         rw[an]
         refine⟨_,rfl,?_⟩
         refine⟨v1b,e+1,?_⟩
         and_intros<;>first|rfl|(simp only[aL,seval,Zb]<;>rfl)
    ·cases hh
     try simp only[aL,seval]
     apply jr
     refine⟨rfl,⟨v1b,?_⟩⟩
     and_intros<;>first|rfl|(simp only[aL,seval,Zb]<;>rfl)
   ·rintro x t H e hx
    rcases o19 with _|rb
    ·dsimp only at hx hh
     obtain⟨rfl,⟨v1bx,Zbx⟩⟩:=hx
     obtain⟨r35,hr35,hh⟩:=ah hh
     obtain⟨r36,hr36,hh⟩:=ah hh
     cases hh
     try simp only[aL,seval,Zbx,hr35,hr36]
    ·dsimp only at hx hh
     obtain⟨rfl,hE⟩:=hx
     cases hh
     try simp only[aU,bd,b7,b5]
     exact hE
 ·clear hh
  have hh:=ho2
  try simp only[aL,seval]
  apply sp aN hh<;>intro _ hh
  ·cases hh
   try simp only[aL,seval]
   rw[an]
   refine⟨_,rfl,?_⟩
   refine⟨0,?_⟩
   and_intros<;>first|rfl|(simp only[aL,seval,hr1]<;>rfl)
  ·cases hh
   try simp only[aL,seval]
   rw[an]
   refine⟨_,rfl,?_⟩
   refine⟨0,?_⟩
   and_intros<;>first|rfl|(simp only[aL,seval,hr1]<;>rfl)
theorem nt:bP prog 24 kj:=bP.gr (mode := .clean) tok JS mixed func24 (by kernel_rfl) (fun _=>by kernel_rfl) (fun x r h=>NQ x r h)
def lZ:=fb (eU (bM pT)) (fun x:cu=>fR x) (fun r:(List Int) =>.clean (.sl false false r.length (ab (eI .i64) r)))
theorem kx (p0_0:Int) (p0_1:(List bJ)):lZ none [.agg [.int .i64 p0_0,.sl false false p0_1.length (ab aM p0_1)]]=(fR (cu.mk p0_0 p0_1)).map fun r:(List Int)=>(.clean (.sl false false r.length (ab (eI .i64) r)),none):=aJ _ _ _ ((cu.mk p0_0 p0_1))
def oV:Env:=(Am.vE 18 (3,1,0) (Am.ext (Am.ext (Am.ext a7 24 false kj) 39 false gM) 85 false l7))
theorem JR:bA prog oV:=(bA.vE (((bA.none.add nt false).add jg false).add rD false) 18 (3,1,0))
theorem aO:type_of% (ai @w<|ai @gR<|ai @eo<|ai @ky<|@oV.eq_1):=⟨@w,@gR,@eo,@ky,@oV.eq_1⟩
theorem NP (p0:cu) (r:(List Int)) (hh:fR p0=some r):aW .clean tab oV FU Tryz.f30 none [.agg [.int .i64 p0.az,.sl false false p0.av.length (ab aM p0.av)]]=some (.clean (.sl false false r.length (ab (eI .i64) r)),none):=by
 apply aB rfl ntmps30 results30
 unfold fR at hh
 obtain⟨r1,hr1,hh⟩:=ah hh
 try simp only[aO,seval,-Int.reduceToNat,hr1]
 apply sp al hh<;>intro _ hh
 ·cases hh
  try simp only[aO,seval,-Int.reduceToNat]
 ·obtain⟨x3,hx3,hh⟩:=ah hh
  have q4n:=aaI (E:=(Fe (eI .i64))) (ty':=3) (s:=1) (f:=0) (k := .i64) KA (by rfl) rfl rfl rfl rfl rfl hx3
  obtain⟨q4a,q4b,q4c,q4d,q4e⟩:=mk_one (Fe (eI .i64)) hx3
  try simp only[aO,seval,-Int.reduceToNat,q4n,q4a]
  obtain⟨o11,ho11,hh⟩:=ah hh
  refine ay (fun s t H e=>match s with|(s22a,l18a)=>∃v1a:Nat,∃v18a:Nat,∃vn18a:Nat,t 1=.ptr 1 v1a 0∧t 3=.buf 18 v18a 1 0 (l18a).length∧t 20=.sl false false p0.av.length (ab aM p0.av)∧t 21=.int .i64 (p0.av.length:Int)∧t 22=.int .i64 s22a∧H 1=some ⟨v1a,28,[.int .i64 p0.az,.sl false false p0.av.length (ab aM p0.av)],false,false,false⟩∧H 18=some ⟨v18a,22,[.nr 3 1 vn18a (ab (Fe (eI .i64)) l18a)],false,true,true⟩∧vn18a<=4*e) (fun o x t H e=>match o with|l18ax=>x=.exit 0∧∃v1ax:Nat,∃v18ax:Nat,∃vn18ax:Nat,t 1=.ptr 1 v1ax 0∧t 3=.buf 18 v18ax 1 0 (l18ax).length∧H 1=some ⟨v1ax,28,[.int .i64 p0.az,.sl false false p0.av.length (ab aM p0.av)],false,false,false⟩∧H 18=some ⟨v18ax,22,[.nr 3 1 vn18ax (ab (Fe (eI .i64)) l18ax)],false,true,true⟩∧vn18ax<=4*e) ho11 ?_ ?_ ?_
  ·refine⟨0,2,4*(2)+2,?_,?_,?_,?_,?_,?_,?_,?_⟩
   all_goals (first|rfl|omega|(simp only[aO,seval,-Int.reduceToNat,hr1,q4n,q4a]<;>rfl))
  ·rintro⟨s22a,l18a⟩ t H e ⟨v1a,v18a,vn18a,Za⟩ c hh
   simp only[jb]at hh
   try simp only[aO,seval,-Int.reduceToNat,Za]
   apply sp al hh<;>intro _ hh
   ·obtain⟨x13,hx13,hh⟩:=ah hh
    have ax13:=bm aM hx13
    simp only[bN]at ax13
    obtain⟨x14,hx14,hh⟩:=ah hh
    have ax14:=bm (Fe (eI .i64)) hx14
    simp only[bN]at ax14
    obtain⟨x15,hx15,hh⟩:=ah hh
    obtain⟨q16a,q16b,q16c,q16d⟩:=gV (eI .i64) hx15
    simp only[bN]at q16b
    have ax14:=bm (Fe (eI .i64)) hx14
    simp only[bN]at ax14
    have p17:=YM (Fe (eI .i64)) (x':=x15) 0 .und (.nx x15.length (ab (eI .i64) x15)) hx14 rfl (ahB rfl)
    have lp17:=aaR (Fe (eI .i64)) 0 .und hx14 (ahB rfl)
    simp only[bN,Nat.add_zero]at p17 lp17
    have up17:=p17
    simp only[putCells,List.length_cons,List.length_nil,agF]at up17
    have ulp17:=lp17
    simp only[putCells,List.length_cons,List.length_nil,agF]at ulp17
    have bp17:bump vn18a (e+1+1)=some (4*(e+1+1)+1):=Bz (by omega)
    try simp only[aO,seval,-Int.reduceToNat,Za,ax13,q16a,q16b,q16c,q16d,ax14,up17,ulp17,bp17]
    refine bt (by kernel_rfl) ?_
    cases hh
    try simp only[aO,seval,-Int.reduceToNat,hr1,q4n,q4a,Za,ax13,ax14,q16a,q16b,q16c,q16d,ax14,p17,up17,lp17,ulp17,bp17]
    apply gL
    refine⟨v1a,v18a,4*(e+1+1)+1,?_,?_,?_,?_,?_,?_,?_,?_⟩
    all_goals (first|rfl|omega|(simp only[aO,seval,-Int.reduceToNat,Za]<;>rfl))
   ·cases hh
    try simp only[aO,seval,-Int.reduceToNat]
    apply jr
    refine⟨rfl,⟨v1a,v18a,vn18a,?_,?_,?_,?_,?_⟩⟩
    all_goals (first|rfl|omega|(simp only[aO,seval,-Int.reduceToNat,Za]<;>rfl))
  ·rintro x t H e hx
   obtain⟨l18ax,rfl⟩:∃z,z=o11:=⟨_,rfl⟩
   dsimp only at hx hh
   obtain⟨rfl,⟨v1ax,v18ax,vn18ax,Zax⟩⟩:=hx
   obtain⟨x18,hx18,hh⟩:=ah hh
   obtain⟨q19a,q19b,q19c,q19d,q19e⟩:=mk_one (eI .i64) hx18
   simp only[bN]at q19d
   obtain⟨r20,hr20,hh⟩:=ah hh
   try simp only[aO,seval,-Int.reduceToNat,q4a,Zax,q19b,q19c,q19d,q19e,hr20]
   obtain⟨o31,ho31,hh⟩:=ah hh
   refine ay (fun s t H e=>match s with|(s46b,l6b,l7b)=>∃v6b:Nat,∃v7b:Nat,∃v18b:Nat,∃vn18b:Nat,∃O7b:Nat,∃C7b:List D,t 3=.buf 18 v18b 1 0 (l18ax).length∧t 6=.buf 6 v6b 1 0 (l6b).length∧t 7=.buf 7 v7b 1 O7b (l7b).length∧t 44=.sl false false r20.length (ab aC r20)∧t 45=.int .i64 (r20.length:Int)∧t 46=.int .i64 s46b∧H 6=some ⟨v6b,3,ab (eI .i64) l6b,false,true,false⟩∧H 7=some ⟨v7b,3,C7b,false,true,false⟩∧H 18=some ⟨v18b,22,[.nr 3 1 vn18b (ab (Fe (eI .i64)) l18ax)],false,true,true⟩∧vn18b<=4*e∧sr (eI .i64) C7b O7b l7b) (fun o x t H e=>match o with|(l6bx,l7bx)=>x=.exit 2∧∃v6bx:Nat,∃v7bx:Nat,∃v18bx:Nat,∃vn18bx:Nat,∃O7bx:Nat,∃C7bx:List D,t 3=.buf 18 v18bx 1 0 (l18ax).length∧t 6=.buf 6 v6bx 1 0 (l6bx).length∧t 7=.buf 7 v7bx 1 O7bx (l7bx).length∧H 6=some ⟨v6bx,3,ab (eI .i64) l6bx,false,true,false⟩∧H 7=some ⟨v7bx,3,C7bx,false,true,false⟩∧H 18=some ⟨v18bx,22,[.nr 3 1 vn18bx (ab (Fe (eI .i64)) l18ax)],false,true,true⟩∧vn18bx<=4*e∧sr (eI .i64) C7bx O7bx l7bx) ho31 ?_ ?_ ?_
   ·refine⟨e,e+1,v18ax,vn18ax,0,(ab (eI .i64) ([])),?_,?_,?_,?_,?_,?_,?_,?_,?_,?_,(sr.self (eI .i64) ([]))⟩
    all_goals (first|rfl|omega|(simp only[aO,seval,-Int.reduceToNat,Zax]<;>rfl))
   ·rintro⟨s46b,l6b,l7b⟩ t H e ⟨v6b,v7b,v18b,vn18b,O7b,C7b,t3b,t6b,t7b,t44b,t45b,t46b,H6b,H7b,H18b,Hn18b,F7b⟩ c hh
    simp only[jc]at hh
    have f1F7b:=F7b.fit
    have f2F7b:=F7b.eq
    simp only[bN]at f1F7b f2F7b
    try simp only[aO,seval,-Int.reduceToNat,t45b,t46b]
    apply sp al hh<;>intro _ hh
    ·obtain⟨x33,hx33,hh⟩:=ah hh
     have ax33:=bm aC hx33
     simp only[bN]at ax33
     obtain⟨x34,hx34,hh⟩:=ah hh
     have ax34:=bm (eI .i64) hx34
     simp only[bN]at ax34
     have p35:=eZ (eI .i64) (x':=(-1)) (fo:=0) (cs:=[.int .i64 (-1)]) hx34 rfl (ahB rfl)
     simp only[bN,Nat.add_zero]at p35
     have up35:=p35
     simp only[putCells,List.length_cons,List.length_nil,agF]at up35
     obtain⟨r36,hr36,hh⟩:=ah hh
     try simp only[aO,seval,-Int.reduceToNat,t6b,t44b,t46b,H6b,ax33,ax34,up35,hr36]
     apply sp al hh<;>intro _ hh
     ·obtain⟨x38,hx38,hh⟩:=ah hh
      have ax38:=bm (eI .i64) hx38
      simp only[bN,ahR]at ax38
      have p39:=eZ (eI .i64) (x':=0) (fo:=0) (cs:=[.int .i64 0]) hx38 rfl (ahB rfl)
      simp only[bN,Nat.add_zero]at p39
      have up39:=p39
      simp only[putCells,List.length_cons,List.length_nil,agF]at up39
      obtain⟨x40,hx40,hh⟩:=ah hh
      obtain⟨q41a,q41b,q41c,q41d⟩:=gV (eI .i64) hx40
      simp only[bN]at q41b
      cases hh
      try simp only[aO,seval,-Int.reduceToNat,t6b,t7b,t46b,H7b,f1F7b,f2F7b,ax33,ax34,up39,q41a,q41b,q41c,q41d]
      apply gL
      refine⟨v6b,e+1+1+1+1+1,v18b,vn18b,0,(ab (eI .i64) x40),?_,?_,?_,?_,?_,?_,?_,?_,?_,?_,(sr.self (eI .i64) x40)⟩
      all_goals (first|rfl|omega|(simp only[aO,seval,-Int.reduceToNat,t3b,t6b,t44b,t45b,H18b]<;>rfl))
     ·cases hh
      try simp only[aO,seval,-Int.reduceToNat,t46b]
      apply gL
      refine⟨v6b,v7b,v18b,vn18b,O7b,C7b,?_,?_,?_,?_,?_,?_,?_,?_,?_,?_,F7b⟩
      all_goals (first|rfl|omega|(simp only[aO,seval,-Int.reduceToNat,t3b,t6b,t7b,t44b,t45b,H7b,H18b]<;>rfl))
    ·cases hh
     try simp only[aO,seval,-Int.reduceToNat]
     apply jr
     refine⟨rfl,⟨v6b,v7b,v18b,vn18b,O7b,C7b,?_,?_,?_,?_,?_,?_,?_,F7b⟩⟩
     all_goals (first|rfl|omega|(simp only[aO,seval,-Int.reduceToNat,t3b,t6b,t7b]<;>rfl))
   ·rintro x t H e hx
    rcases o31 with⟨l6bx,l7bx⟩
    dsimp only at hx hh
    obtain⟨rfl,⟨v6bx,v7bx,v18bx,vn18bx,O7bx,C7bx,t3bx,t6bx,t7bx,H6bx,H7bx,H18bx,Hn18bx,F7bx⟩⟩:=hx
    have f1F7bx:=F7bx.fit
    have f2F7bx:=F7bx.eq
    simp only[bN]at f1F7bx f2F7bx
    try simp only[aO,seval,-Int.reduceToNat]
    obtain⟨o64,ho64,hh⟩:=ah hh
    refine ay (fun s t H e=>match s with|(l6c,l7c)=>∃v6c:Nat,∃v7c:Nat,∃v18c:Nat,∃vn18c:Nat,∃O7c:Nat,∃C7c:List D,t 3=.buf 18 v18c 1 0 (l18ax).length∧t 6=.buf 6 v6c 1 0 (l6c).length∧t 7=.buf 7 v7c 1 O7c (l7c).length∧H 6=some ⟨v6c,3,ab (eI .i64) l6c,false,true,false⟩∧H 7=some ⟨v7c,3,C7c,false,true,false⟩∧H 18=some ⟨v18c,22,[.nr 3 1 vn18c (ab (Fe (eI .i64)) l18ax)],false,true,true⟩∧vn18c<=4*e∧sr (eI .i64) C7c O7c l7c) (fun o x t H e=>match o with|l6cx=>x=.exit 4∧∃v6cx:Nat,t 6=.buf 6 v6cx 1 0 (l6cx).length∧H 6=some ⟨v6cx,3,ab (eI .i64) l6cx,false,true,false⟩) ho64 ?_ ?_ ?_
    ·refine⟨v6bx,v7bx,v18bx,vn18bx,O7bx,C7bx,?_,?_,?_,?_,?_,?_,?_,F7bx⟩
     all_goals (first|rfl|omega|(simp only[aO,seval,-Int.reduceToNat,hr1,q4n,q4a,q19a,q19b,q19c,q19d,q19e,hr20,t3bx,t6bx,t7bx,H6bx,H7bx,H18bx,Hn18bx,f1F7bx,f2F7bx]<;>rfl))
    ·rintro⟨l6c,l7c⟩ t H e ⟨v6c,v7c,v18c,vn18c,O7c,C7c,t3c,t6c,t7c,H6c,H7c,H18c,Hn18c,F7c⟩ c hh
     simp only[jd]at hh
     have f1F7c:=F7c.fit
     have f2F7c:=F7c.eq
     simp only[bN]at f1F7c f2F7c
     try simp only[aO,seval,-Int.reduceToNat,t7c,H7c]
     apply sp al hh<;>intro _ hh
     ·obtain⟨x66,hx66,hh⟩:=ah hh
      have bx66:=JY hx66
      obtain⟨fx66,restx66,ax66⟩:=F7c.idx hx66
      simp only[bN]at ax66 fx66
      obtain⟨x67,hx67,hh⟩:=ah hh
      obtain⟨q68a,q68b,q68c,q68d,q68e⟩:=Y0 (eI .i64) hx67
      simp only[bN]at q68e
      have q68F:=sr.tail F7c hx67
      obtain⟨x69,hx69,hh⟩:=ah hh
      have ax69:=bm (Fe (eI .i64)) hx69
      simp only[bN]at ax69
      try simp only[aO,seval,-Int.reduceToNat,t3c,t7c,H7c,H18c,bx66,ax66,fx66,q68a,q68c,ax69]
      obtain⟨o78,ho78,hh⟩:=ah hh
      refine ay (fun s t H e=>match s with|(s78e,l6e,l7e)=>∃v6e:Nat,∃v7e:Nat,∃v18e:Nat,∃vn18e:Nat,∃O7e:Nat,∃C7e:List D,t 3=.buf 18 v18e 1 0 (l18ax).length∧t 6=.buf 6 v6e 1 0 (l6e).length∧t 7=.buf 7 v7e 1 O7e (l7e).length∧t 10=.int .i64 x66∧t 76=.buf (NK 18 ((x66:Int).toNat*1)) vn18e 1 0 (x69).length∧t 77=.int .i64 ((x69).length:Int)∧t 78=.int .i64 s78e∧H 6=some ⟨v6e,3,ab (eI .i64) l6e,false,true,false⟩∧H 7=some ⟨v7e,3,C7e,false,true,false⟩∧H 18=some ⟨v18e,22,[.nr 3 1 vn18e (ab (Fe (eI .i64)) l18ax)],false,true,true⟩∧vn18e<=4*e∧sr (eI .i64) C7e O7e l7e) (fun o x t H e=>match o with|(l6ex,l7ex)=>x=.exit 6∧∃v6ex:Nat,∃v7ex:Nat,∃v18ex:Nat,∃vn18ex:Nat,∃O7ex:Nat,∃C7ex:List D,t 3=.buf 18 v18ex 1 0 (l18ax).length∧t 6=.buf 6 v6ex 1 0 (l6ex).length∧t 7=.buf 7 v7ex 1 O7ex (l7ex).length∧H 6=some ⟨v6ex,3,ab (eI .i64) l6ex,false,true,false⟩∧H 7=some ⟨v7ex,3,C7ex,false,true,false⟩∧H 18=some ⟨v18ex,22,[.nr 3 1 vn18ex (ab (Fe (eI .i64)) l18ax)],false,true,true⟩∧vn18ex<=4*e∧sr (eI .i64) C7ex O7ex l7ex) ho78 ?_ ?_ ?_
      ·refine⟨v6c,e+1+1,v18c,vn18c,(O7c+(1:Int).toNat*1),(C7c),?_,?_,?_,?_,?_,?_,?_,?_,?_,?_,?_,q68F⟩
       all_goals (first|rfl|omega|(simp only[aO,seval,-Int.reduceToNat,t3c,t6c,H6c,H18c,q68d]<;>rfl))
      ·rintro⟨s78e,l6e,l7e⟩ t H e ⟨v6e,v7e,v18e,vn18e,O7e,C7e,t3e,t6e,t7e,t10e,t76e,t77e,t78e,H6e,H7e,H18e,Hn18e,F7e⟩ c hh
       simp only[je]at hh
       have f1F7e:=F7e.fit
       have f2F7e:=F7e.eq
       simp only[bN]at f1F7e f2F7e
       try simp only[aO,seval,-Int.reduceToNat,t77e,t78e]
       apply sp al hh<;>intro _ hh
       ·obtain⟨x80,hx80,hh⟩:=ah hh
        have ax80:=bm (eI .i64) hx80
        simp only[bN]at ax80
        obtain⟨x81,hx81,hh⟩:=ah hh
        have ax81:=bm (eI .i64) hx81
        simp only[bN]at ax81
        try simp only[aO,seval,-Int.reduceToNat,ax69,t6e,t76e,t78e,H6e,H18e,ax80,ax81]
        apply sp al hh<;>intro _ hh
        ·obtain⟨x83,hx83,hh⟩:=ah hh
         have ax83:=bm (eI .i64) hx83
         simp only[bN]at ax83
         have ax81:=bm (eI .i64) hx81
         simp only[bN]at ax81
         have p84:=eZ (eI .i64) (x':=IntKind.i64.wrap (x83+1)) (fo:=0) (cs:=[.int .i64 (IntKind.i64.wrap (x83+1))]) hx81 rfl (ahB rfl)
         simp only[bN,Nat.add_zero]at p84
         have up84:=p84
         simp only[putCells,List.length_cons,List.length_nil,agF]at up84
         obtain⟨x85,hx85,hh⟩:=ah hh
         obtain⟨q86a,q86b,q86c,q86d⟩:=gV (eI .i64) hx85
         simp only[bN]at q86b
         cases hh
         try simp only[aO,seval,-Int.reduceToNat,ax69,t6e,t7e,t10e,t78e,H6e,H7e,f1F7e,f2F7e,ax83,ax81,up84,q86a,q86b,q86c,q86d]
         apply gL
         refine⟨v6e,e+1+1+1+1,v18e,vn18e,0,(ab (eI .i64) x85),?_,?_,?_,?_,?_,?_,?_,?_,?_,?_,?_,(sr.self (eI .i64) x85)⟩
         all_goals (first|rfl|omega|(simp only[aO,seval,-Int.reduceToNat,t3e,t6e,t10e,t76e,t77e,H18e]<;>rfl))
        ·cases hh
         try simp only[aO,seval,-Int.reduceToNat,t78e]
         apply gL
         refine⟨v6e,v7e,v18e,vn18e,O7e,C7e,?_,?_,?_,?_,?_,?_,?_,?_,?_,?_,?_,F7e⟩
         all_goals (first|rfl|omega|(simp only[aO,seval,-Int.reduceToNat,t3e,t6e,t7e,t10e,t76e,t77e]<;>rfl))
       ·cases hh
        try simp only[aO,seval,-Int.reduceToNat]
        apply jr
        refine⟨rfl,⟨v6e,v7e,v18e,vn18e,O7e,C7e,?_,?_,?_,?_,?_,?_,?_,F7e⟩⟩
        all_goals (first|rfl|omega|(simp only[aO,seval,-Int.reduceToNat,t3e,t6e,t7e]<;>rfl))
      ·rintro x t H e hx
       rcases o78 with⟨l6ex,l7ex⟩
       dsimp only at hx hh
       obtain⟨rfl,⟨v6ex,v7ex,v18ex,vn18ex,O7ex,C7ex,t3ex,t6ex,t7ex,H6ex,H7ex,H18ex,Hn18ex,F7ex⟩⟩:=hx
       have f1F7ex:=F7ex.fit
       have f2F7ex:=F7ex.eq
       simp only[bN]at f1F7ex f2F7ex
       cases hh
       try simp only[aO,seval,-Int.reduceToNat]
       apply gL
       refine⟨v6ex,v7ex,v18ex,vn18ex,O7ex,C7ex,?_,?_,?_,?_,?_,?_,?_,F7ex⟩
       all_goals (first|rfl|omega|(simp only[aO,seval,-Int.reduceToNat,hr1,q4n,q4a,q19a,q19b,q19c,q19d,q19e,hr20,f1F7bx,f2F7bx,f1F7c,f2F7c,bx66,ax66,fx66,q68a,q68b,q68c,q68e,ax69,q68d,q68d,t3ex,t6ex,t7ex,H6ex,H7ex,H18ex,Hn18ex,f1F7ex,f2F7ex]<;>rfl))
     ·cases hh
      try simp only[aO,seval,-Int.reduceToNat]
      apply jr
      refine⟨rfl,⟨v6c,?_⟩⟩
      and_intros<;>first|rfl|(simp only[aO,seval,-Int.reduceToNat,t6c,H6c]<;>rfl)
    ·rintro x t H e hx
     obtain⟨l6cx,rfl⟩:∃z,z=o64:=⟨_,rfl⟩
     dsimp only at hx hh
     obtain⟨rfl,⟨v6cx,Zcx⟩⟩:=hx
     cases hh
     try simp only[aO,seval,-Int.reduceToNat,Zcx]
theorem rC:bP prog 30 lZ:=bP.gr (mode := .clean) tok JR mixed func30 (by kernel_rfl) (fun _=>by kernel_rfl) (fun x r h=>NP x r h)
def nL:=fb (jO (pE (eI .i64)) (eU (pE (eI .i64)))) (fun x:(List Int)×(List Int)=>gW x.1 x.2) (fun r:Bool =>.clean (.bool r))
theorem iO (p0:(List Int)) (p1:(List Int)):nL none [.sl false false p0.length (ab (eI .i64) p0),.sl false false p1.length (ab (eI .i64) p1)]=(gW p0 p1).map fun r:Bool=>(.clean (.bool r),none):=aJ _ _ _ (p0,p1)
theorem DI (p0:(List Int)) (p1:(List Int)) (r:Bool) (hh:gW p0 p1=some r):aW .clean tab a7 FU Tryz.f29 none [.sl false false p0.length (ab (eI .i64) p0),.sl false false p1.length (ab (eI .i64) p1)]=some (.clean (.bool r),none):=by
 apply aB rfl ntmps29 results29
 unfold gW at hh
 try simp only[w,seval]
 apply sp al hh<;>intro _ hh
 ·cases hh
  try simp only[w,seval]
 ·try simp only[w,seval]
  obtain⟨o6,ho6,hh⟩:=ah hh
  refine ay (fun s t H e=>match s with|s5a=>t 0=.sl false false p0.length (ab (eI .i64) p0)∧t 1=.sl false false p1.length (ab (eI .i64) p1)∧t 5=.int .i64 s5a) (fun o x t H e=>match o with|(.inl _)=>x=.exit 0|(.inr r)=>x=.ret∧eR .clean tab none [.tmp 4] ⟨t,EH H,e⟩=some (.clean (.bool r),none)) ho6 ?_ ?_ ?_
  ·and_intros<;>first|rfl|(simp only[w,seval]<;>rfl)
  ·rintro s5a t H e Za c hh
   simp only[sf]at hh
   try simp only[w,seval,Za]
   apply sp al hh<;>intro _ hh
   ·obtain⟨x8,hx8,hh⟩:=ah hh
    have ax8:=bm (eI .i64) hx8
    simp only[bN]at ax8
    obtain⟨x9,hx9,hh⟩:=ah hh
    have ax9:=bm (eI .i64) hx9
    simp only[bN]at ax9
    try simp only[w,seval,Za,ax8,ax9]
    refine bt (by kernel_rfl) ?_
    try simp only[w,seval,Za,ax8,ax9]
    apply sp al hh<;>intro _ hh
    ·cases hh
     try simp only[w,seval]
     refine rz ⟨rfl,?_⟩
     try simp only[w,seval]
    ·cases hh
     try simp only[w,seval,Za]
     apply gL
     and_intros<;>first|rfl|(simp only[w,seval,Za]<;>rfl)
   ·cases hh
    try simp only[w,seval]
    apply jr
    exact rfl
  ·rintro x t H e hx
   rcases o6 with _|ra
   ·dsimp only at hx hh
    subst hx
    cases hh
    try simp only[w,seval]
   ·dsimp only at hx hh
    obtain⟨rfl,hE⟩:=hx
    cases hh
    try simp only[aU,bd,b7,b5]
    exact hE
theorem Bn:bP prog 29 nL:=bP.gr (mode := .clean) tok bA.none mixed func29 (by kernel_rfl) (fun _=>by kernel_rfl) (fun x r h=>DI x.1 x.2 r h)
def qu:=fb (jO (bM pT) (eU (aI .i64))) (fun x:cu×Int=>jJ x.1 x.2) (fun r:ao =>.clean (.agg [.int .i64 r.aZ.ae,.sl false false r.aZ.aa.length (ab (eI .i64) r.aZ.aa),.int .i64 r.aY.ae,.sl false false r.aY.aa.length (ab (eI .i64) r.aY.aa)]))
theorem rJ (p0_0:Int) (p0_1:(List bJ)) (p1:Int):qu none [.agg [.int .i64 p0_0,.sl false false p0_1.length (ab aM p0_1)],.int .i64 p1]=(jJ (cu.mk p0_0 p0_1) p1).map fun r:ao=>(.clean (.agg [.int .i64 r.aZ.ae,.sl false false r.aZ.aa.length (ab (eI .i64) r.aZ.aa),.int .i64 r.aY.ae,.sl false false r.aY.aa.length (ab (eI .i64) r.aY.aa)]),none):=aJ _ _ _ ((cu.mk p0_0 p0_1),p1)
def rf:Env:=(Am.ext (Am.ext (Am.ext a7 24 false kj) 71 false fV) 85 false l7)
theorem MI:bA prog rf:=(((bA.none.add nt false).add ir false).add rD false)
theorem oF:type_of% (ai @w<|ai @gR<|ai @dJ<|ai @ky<|@rf.eq_1):=⟨@w,@gR,@dJ,@ky,@rf.eq_1⟩
theorem QR (p0:cu) (p1:Int) (r:ao) (hh:jJ p0 p1=some r):aW .clean tab rf FU Tryz.f27 none [.agg [.int .i64 p0.az,.sl false false p0.av.length (ab aM p0.av)],.int .i64 p1]=some (.clean (.agg [.int .i64 r.aZ.ae,.sl false false r.aZ.aa.length (ab (eI .i64) r.aZ.aa),.int .i64 r.aY.ae,.sl false false r.aY.aa.length (ab (eI .i64) r.aY.aa)]),none):=by
 apply aB rfl ntmps27 results27
 unfold jJ at hh
 obtain⟨r1,hr1,hh⟩:=ah hh
 try simp only[oF,seval,hr1]
 apply sp aN hh<;>intro _ hh
 ·cases hh
  try simp only[oF,seval]
 ·obtain⟨r3,hr3,hh⟩:=ah hh
  try simp only[oF,seval,hr3]
  apply sp al hh<;>intro _ hh
  ·cases hh
   try simp only[oF,seval]
  ·obtain⟨r5,hr5,hh⟩:=ah hh
   obtain⟨x6,hx6,hh⟩:=ah hh
   have ax6:=bm aC hx6
   simp only[bN]at ax6
   cases hh
   try simp only[oF,seval,hr5,ax6]
theorem AG:bP prog 27 qu:=bP.gr (mode := .clean) tok MI mixed func27 (by kernel_rfl) (fun _=>by kernel_rfl) (fun x r h=>QR x.1 x.2 r h)
def lJ:=fb (eU (bM pT)) (fun x:cu=>gQ x) (fun r:(List Int) =>.clean (.sl false false r.length (ab (eI .i64) r)))
theorem lW (p0_0:Int) (p0_1:(List bJ)):lJ none [.agg [.int .i64 p0_0,.sl false false p0_1.length (ab aM p0_1)]]=(gQ (cu.mk p0_0 p0_1)).map fun r:(List Int)=>(.clean (.sl false false r.length (ab (eI .i64) r)),none):=aJ _ _ _ ((cu.mk p0_0 p0_1))
def lS:Env:=(Am.ext a7 30 false lZ)
theorem Df:bA prog lS:=(bA.none.add rC false)
theorem dG:type_of% (ai @w<|ai @kx<|@lS.eq_1):=⟨@w,@kx,@lS.eq_1⟩
theorem FF (p0:cu) (r:(List Int)) (hh:gQ p0=some r):aW .clean tab lS FU Tryz.f32 none [.agg [.int .i64 p0.az,.sl false false p0.av.length (ab aM p0.av)]]=some (.clean (.sl false false r.length (ab (eI .i64) r)),none):=by
 apply aB rfl ntmps32 results32
 unfold gQ at hh
 obtain⟨r1,hr1,hh⟩:=ah hh
 try simp only[dG,seval,hr1]
 obtain⟨o7,ho7,hh⟩:=ah hh
 refine ay (fun s t H e=>match s with|(s9a,l3a)=>∃v3a:Nat,t 3=.buf 3 v3a 1 0 (l3a).length∧t 7=.sl false false r1.length (ab (eI .i64) r1)∧t 8=.int .i64 (r1.length:Int)∧t 9=.int .i64 s9a∧H 3=some ⟨v3a,3,ab (eI .i64) l3a,false,true,false⟩) (fun o x t H e=>match o with|l3ax=>x=.exit 0∧∃v3ax:Nat,t 3=.buf 3 v3ax 1 0 (l3ax).length∧H 3=some ⟨v3ax,3,ab (eI .i64) l3ax,false,true,false⟩) ho7 ?_ ?_ ?_
 ·refine⟨1,?_⟩
  and_intros<;>first|rfl|(simp only[dG,seval,hr1]<;>rfl)
 ·rintro⟨s9a,l3a⟩ t H e ⟨v3a,Za⟩ c hh
  simp only[gH]at hh
  try simp only[dG,seval,Za]
  apply sp al hh<;>intro _ hh
  ·obtain⟨x9,hx9,hh⟩:=ah hh
   have ax9:=bm (eI .i64) hx9
   simp only[bN]at ax9
   try simp only[dG,seval,Za,ax9]
   apply sp al hh<;>intro _ hh
   ·obtain⟨x11,hx11,hh⟩:=ah hh
    obtain⟨q12a,q12b,q12c,q12d⟩:=gV (eI .i64) hx11
    simp only[bN]at q12b
    cases hh
    try simp only[dG,seval,Za,q12a,q12b,q12c,q12d]
    apply gL
    refine⟨e+1+1+1,?_⟩
    and_intros<;>first|rfl|(simp only[dG,seval,Za]<;>rfl)
   ·cases hh
    try simp only[dG,seval,Za]
    apply gL
    refine⟨v3a,?_⟩
    and_intros<;>first|rfl|(simp only[dG,seval,Za]<;>rfl)
  ·cases hh
   try simp only[dG,seval]
   apply jr
   refine⟨rfl,⟨v3a,?_⟩⟩
   and_intros<;>first|rfl|(simp only[dG,seval,Za]<;>rfl)
 ·rintro x t H e hx
  obtain⟨l3ax,rfl⟩:∃z,z=o7:=⟨_,rfl⟩
  dsimp only at hx hh
  obtain⟨rfl,⟨v3ax,Zax⟩⟩:=hx
  cases hh
  try simp only[dG,seval,Zax]
theorem tI:bP prog 32 lJ:=bP.gr (mode := .clean) tok Df mixed func32 (by kernel_rfl) (fun _=>by kernel_rfl) (fun x r h=>FF x r h)
def wx:=fb (as0) (fun x:Unit=>pX) (fun r:Bool =>.clean (.bool r))
theorem Ev:wx none []=(pX).map fun r:Bool=>(.clean (.bool r),none):=aJ _ _ _ ()
def re:Env:=(Am.ext (Am.ext (Am.ext (Am.ext (Am.ext (Am.ext (Am.ext (Am.ext (Am.ext (Am.ext (Am.ext (Am.ext a7 19 false oJ) 21 false BO) 23 false wA) 24 false kj) 26 false qB) 27 false qu) 29 false nL) 30 false lZ) 32 false lJ) 34 false uh) 68 false pt) 69 false wv)
theorem MH:bA prog re:=((((((((((((bA.none.add ye false).add VV false).add OC false).add nt false).add AJ false).add AG false).add Bn false).add rC false).add tI false).add Ef false).add D8 false).add Oy false)
theorem bR:type_of% (ai @w<|ai @pk<|ai @OM<|ai @wP<|ai @gR<|ai @rL<|ai @rJ<|ai @iO<|ai @kx<|ai @lW<|ai @vc<|ai @vX<|ai @Eu<|@re.eq_1):=⟨@w,@pk,@OM,@wP,@gR,@rL,@rJ,@iO,@kx,@lW,@vc,@vX,@Eu,@re.eq_1⟩
theorem QQ (r:Bool) (hh:pX=some r):aW .clean tab re FU Tryz.f16 none []=some (.clean (.bool r),none):=by
 apply aB rfl ntmps16 results16
 unfold pX at hh
 obtain⟨r1,hr1,hh⟩:=ah hh
 obtain⟨r2,hr2,hh⟩:=ah hh
 obtain⟨r3,hr3,hh⟩:=ah hh
 try simp only[bR,seval,hr1,hr2,hr3]
 obtain⟨o4,ho4,hh⟩:=ah hh
 refine bs 0 (fun s t H e=>match s with|s41j1=>t 41=.bool s41j1) (fun s=>s=o4) ?_ ?_
 ·rintro s41j1 t H e Zj1 rfl
  try dsimp only at hh
  try simp only[bR,seval,Zj1]
  apply sp al hh<;>intro _ hh
  ·cases hh
   try simp only[bR,seval]
  ·obtain⟨r6,hr6,hh⟩:=ah hh
   obtain⟨r7,hr7,hh⟩:=ah hh
   obtain⟨r8,hr8,hh⟩:=ah hh
   obtain⟨r9,hr9,hh⟩:=ah hh
   obtain⟨r10,hr10,hh⟩:=ah hh
   try simp only[bR,seval,hr1,hr6,hr7,hr8,hr9,hr10]
   apply sp cY hh<;>intro _ hh
   ·obtain⟨r12,hr12,hh⟩:=ah hh
    have i13:=iO r12 ([(-1),(-1)])
    simp only[bo,bN,List.length_cons,agF,Nat.reduceAdd]at i13
    obtain⟨r14,hr14,hh⟩:=ah hh
    try simp only[bR,seval,hr12,i13,hr14]
    apply sp cY hh<;>intro _ hh
    ·obtain⟨r16,hr16,hh⟩:=ah hh
     have i17:=iO r16 ([0,1])
     simp only[bo,bN,List.length_cons,agF,Nat.reduceAdd]at i17
     obtain⟨r18,hr18,hh⟩:=ah hh
     try simp only[bR,seval,hr16,i17,hr18]
     apply sp cY hh<;>intro _ hh
     ·try simp only[bR,seval]
      apply sp cY hh<;>intro _ hh
      ·try simp only[bR,seval]
       apply sp cY hh<;>intro _ hh
       ·obtain⟨r22,hr22,hh⟩:=ah hh
        cases hh
        try simp only[bR,seval,hr22]
       ·cases hh
        try simp only[bR,seval]
      ·cases hh
       try simp only[bR,seval]
     ·cases hh
      try simp only[bR,seval]
    ·cases hh
     try simp only[bR,seval]
   ·cases hh
    try simp only[bR,seval]
 ·clear hh
  have hh:=ho4
  try simp only[bR,seval]
  apply sp aN hh<;>intro _ hh
  ·cases hh
   try simp only[bR,seval]
   rw[an]
   refine⟨_,rfl,?_⟩
   refine ?_
   all_goals first|rfl|(simp only[bR,seval,hr1,hr2,hr3]<;>rfl)
  ·have i24:=wP r3.1.az r3.1.av 2 ([(bJ.mk 0 1 r1),(bJ.mk 1 0 r1)])
   simp only[bo,bN,List.length_cons,agF,Nat.reduceAdd]at i24
   obtain⟨r25,hr25,hh⟩:=ah hh
   try simp only[bR,seval,i24,hr25]
   apply sp aN hh<;>intro _ hh
   ·cases hh
    try simp only[bR,seval]
    rw[an]
    refine⟨_,rfl,?_⟩
    refine ?_
    all_goals first|rfl|(simp only[bR,seval,hr1,hr2,hr3,i24,hr25]<;>rfl)
   ·obtain⟨r27,hr27,hh⟩:=ah hh
    have i28:=iO r27 ([0,0])
    simp only[bo,bN,List.length_cons,agF,Nat.reduceAdd]at i28
    obtain⟨r29,hr29,hh⟩:=ah hh
    try simp only[bR,seval,hr27,i28,hr29]
    apply sp aN hh<;>intro _ hh
    ·cases hh
     try simp only[bR,seval]
     rw[an]
     refine⟨_,rfl,?_⟩
     refine ?_
     all_goals first|rfl|(simp only[bR,seval,hr1,hr2,hr3,i24,hr25,hr27,i28,hr29]<;>rfl)
    ·obtain⟨r31,hr31,hh⟩:=ah hh
     obtain⟨r32,hr32,hh⟩:=ah hh
     cases hh
     try simp only[bR,seval,hr1,hr31,hr32]
     rw[an]
     refine⟨_,rfl,?_⟩
     refine ?_
     all_goals first|rfl|(simp only[bR,seval,hr1,hr2,hr3,i24,hr25,hr27,i28,hr29,hr31,hr32]<;>rfl)
theorem Oz:bP prog 16 wx:=bP.gr (mode := .clean) tok MH mixed func16 (by kernel_rfl) (fun _=>by kernel_rfl) (fun x r h=>QQ  r h)
def yX:=fb (jO (bM aC) (eU (aI .i64))) (fun x:ao×Int=>rO x.1 x.2) (fun r:Bool =>.clean (.bool r))
theorem Ir (p0_0:Int) (p0_1:(List Int)) (p0_2:Int) (p0_3:(List Int)) (p1:Int):yX none [.agg [.int .i64 p0_0,.sl false false p0_1.length (ab (eI .i64) p0_1),.int .i64 p0_2,.sl false false p0_3.length (ab (eI .i64) p0_3)],.int .i64 p1]=(rO (ao.mk (ak.mk p0_0 p0_1) (ak.mk p0_2 p0_3)) p1).map fun r:Bool=>(.clean (.bool r),none):=aJ _ _ _ ((ao.mk (ak.mk p0_0 p0_1) (ak.mk p0_2 p0_3)),p1)
theorem VK (p0:ao) (p1:Int) (r:Bool) (hh:rO p0 p1=some r):aW .clean tab a7 FU Tryz.f70 none [.agg [.int .i64 p0.aZ.ae,.sl false false p0.aZ.aa.length (ab (eI .i64) p0.aZ.aa),.int .i64 p0.aY.ae,.sl false false p0.aY.aa.length (ab (eI .i64) p0.aY.aa)],.int .i64 p1]=some (.clean (.bool r),none):=by
 apply aB rfl ntmps70 results70
 unfold rO at hh
 try simp only[w,seval]
 apply sp cY hh<;>intro _ hh
 ·cases hh
  try simp only[w,seval]
 ·cases hh
  try simp only[w,seval]
theorem Re:bP prog 70 yX:=bP.gr (mode := .clean) tok bA.none mixed func70 (by kernel_rfl) (fun _=>by kernel_rfl) (fun x r h=>VK x.1 x.2 r h)
def qC:=fb (eU (bM pT)) (fun x:cu=>iQ x) (fun r:Bool =>.clean (.bool r))
theorem yn (p0_0:Int) (p0_1:(List bJ)):qC none [.agg [.int .i64 p0_0,.sl false false p0_1.length (ab aM p0_1)]]=(iQ (cu.mk p0_0 p0_1)).map fun r:Bool=>(.clean (.bool r),none):=aJ _ _ _ ((cu.mk p0_0 p0_1))
def nk:Env:=(Am.ext a7 70 false yX)
theorem Fy:bA prog nk:=(bA.none.add Re false)
theorem bL:type_of% (ai @w<|ai @Ir<|@nk.eq_1):=⟨@w,@Ir,@nk.eq_1⟩
theorem J8 (p0:cu) (r:Bool) (hh:iQ p0=some r):aW .clean tab nk FU Tryz.f18 none [.agg [.int .i64 p0.az,.sl false false p0.av.length (ab aM p0.av)]]=some (.clean (.bool r),none):=by
 apply aB rfl ntmps18 results18
 unfold iQ at hh
 try simp only[bL,seval]
 obtain⟨o7,ho7,hh⟩:=ah hh
 refine ay (fun s t H e=>match s with|s3a=>∃v1a:Nat,t 1=.ptr 1 v1a 0∧t 3=.int .i64 s3a∧H 1=some ⟨v1a,28,[.int .i64 p0.az,.sl false false p0.av.length (ab aM p0.av)],false,false,false⟩) (fun o x t H e=>match o with|(.inl _)=>x=.exit 0∧∃v1ax:Nat,t 1=.ptr 1 v1ax 0∧H 1=some ⟨v1ax,28,[.int .i64 p0.az,.sl false false p0.av.length (ab aM p0.av)],false,false,false⟩|(.inr r)=>x=.ret∧eR .clean tab none [.tmp 2] ⟨t,EH H,e⟩=some (.clean (.bool r),none)) ho7 ?_ ?_ ?_
 ·refine⟨0,?_⟩
  and_intros<;>first|rfl|(simp only[bL,seval]<;>rfl)
 ·rintro s3a t H e ⟨v1a,Za⟩ c hh
  simp only[lX]at hh
  try simp only[bL,seval,Za]
  obtain⟨o8,ho8,hh⟩:=ah hh
  refine bs 0 (fun s t H e=>match s with|s12j3=>∃v1j3:Nat,t 1=.ptr 1 v1j3 0∧t 3=.int .i64 s3a∧t 12=.bool s12j3∧H 1=some ⟨v1j3,28,[.int .i64 p0.az,.sl false false p0.av.length (ab aM p0.av)],false,false,false⟩) (fun s=>s=o8) ?_ ?_
  ·rintro s12j3 t H e ⟨v1j3,Zj3⟩ rfl
   try dsimp only at hh
   try simp only[bL,seval,Zj3]
   apply sp al hh<;>intro _ hh
   ·obtain⟨x10,hx10,hh⟩:=ah hh
    have ax10:=bm aM hx10
    simp only[bN]at ax10
    obtain⟨r11,hr11,hh⟩:=ah hh
    try simp only[bL,seval,Zj3,ax10,hr11]
    apply sp al hh<;>intro _ hh
    ·cases hh
     try simp only[bL,seval]
     refine rz ⟨rfl,?_⟩
     try simp only[bL,seval]
    ·cases hh
     try simp only[bL,seval,Zj3]
     apply gL
     refine⟨v1j3,?_⟩
     and_intros<;>first|rfl|(simp only[bL,seval,Zj3]<;>rfl)
   ·cases hh
    try simp only[bL,seval]
    apply jr
    refine⟨rfl,⟨v1j3,?_⟩⟩
    and_intros<;>first|rfl|(simp only[bL,seval,Zj3]<;>rfl)
  ·clear hh
   have hh:=ho8
   try simp only[bL,seval]
   apply sp cY hh<;>intro _ hh
   ·cases hh
    try simp only[bL,seval,Za]
    rw[an]
    refine⟨_,rfl,?_⟩
    refine⟨v1a,?_⟩
    and_intros<;>first|rfl|(simp only[bL,seval,Za]<;>rfl)
   ·cases hh
    try simp only[bL,seval]
    rw[an]
    refine⟨_,rfl,?_⟩
    refine⟨v1a,?_⟩
    and_intros<;>first|rfl|(simp only[bL,seval,Za]<;>rfl)
 ·rintro x t H e hx
  rcases o7 with _|ra
  ·dsimp only at hx hh
   obtain⟨rfl,⟨v1ax,Zax⟩⟩:=hx
   try simp only[bL,seval,Zax]
   apply sp aN hh<;>intro _ hh
   ·cases hh
    try simp only[bL,seval,Zax]
   ·try simp only[bL,seval,Zax]
    apply sp cY hh<;>intro _ hh
    ·cases hh
     try simp only[bL,seval,Zax]
    ·cases hh
     try simp only[bL,seval]
  ·dsimp only at hx hh
   obtain⟨rfl,hE⟩:=hx
   cases hh
   try simp only[aU,bd,b7,b5]
   exact hE
theorem FO:bP prog 18 qC:=bP.gr (mode := .clean) tok Fy mixed func18 (by kernel_rfl) (fun _=>by kernel_rfl) (fun x r h=>J8 x r h)
def yS:=fb (jO (bM pT) (eU (aI .u16))) (fun x:cu×Int=>fD x.1 x.2) (fun r:Bool =>.clean (.bool r))
def iX:Env:=(Am.ext (Am.ext (Am.ext (Am.ext (Am.ext (Am.ext (Am.ext a7 16 false wx) 18 false qC) 24 false kj) 27 false qu) 30 false lZ) 32 false lJ) 39 false gM)
theorem xK:bA prog iX:=(((((((bA.none.add Oz false).add FO false).add nt false).add AG false).add rC false).add tI false).add jg false)
theorem aj:type_of% (ai @w<|ai @Ev<|ai @yn<|ai @gR<|ai @rJ<|ai @kx<|ai @lW<|ai @eo<|@iX.eq_1):=⟨@w,@Ev,@yn,@gR,@rJ,@kx,@lW,@eo,@iX.eq_1⟩
theorem zf (p0:cu) (p1:Int) (r:Bool) (hh:fD p0 p1=some r):aW .clean tab iX FU Tryz.f6 none [.agg [.int .i64 p0.az,.sl false false p0.av.length (ab aM p0.av)],.int .u16 p1]=some (.clean (.bool r),none):=by
 apply aB rfl ntmps6 results6
 unfold fD at hh
 obtain⟨r1,hr1,hh⟩:=ah hh
 obtain⟨r2,hr2,hh⟩:=ah hh
 try simp only[aj,seval,-Int.reduceToNat,hr1,hr2]
 obtain⟨o3,ho3,hh⟩:=ah hh
 refine bs 0 (fun s t H e=>match s with|s23j1=>∃v2j1:Nat,t 1=.int .u16 p1∧t 2=.ptr 2 v2j1 0∧t 5=.bool r1∧t 23=.bool s23j1∧H 2=some ⟨v2j1,28,[.int .i64 p0.az,.sl false false p0.av.length (ab aM p0.av)],false,false,false⟩) (fun s=>s=o3) ?_ ?_
 ·rintro s23j1 t H e ⟨v2j1,Zj1⟩ rfl
  try dsimp only at hh
  try simp only[aj,seval,-Int.reduceToNat,Zj1]
  apply sp al hh<;>intro _ hh
  ·cases hh
   try simp only[aj,seval,-Int.reduceToNat,Zj1]
  ·obtain⟨r5,hr5,hh⟩:=ah hh
   try simp only[aj,seval,-Int.reduceToNat,Zj1,hr5]
   apply sp al hh<;>intro _ hh
   ·cases hh
    try simp only[aj,seval,-Int.reduceToNat]
   ·obtain⟨x7,hx7,hh⟩:=ah hh
    obtain⟨q8a,q8b,q8c,q8d,q8e⟩:=mk_one gN hx7
    simp only[bN]at q8d
    obtain⟨r9,hr9,hh⟩:=ah hh
    try simp only[aj,seval,-Int.reduceToNat,Zj1,q8a,q8b,q8c,q8d,q8e,hr9]
    obtain⟨o26,ho26,hh⟩:=ah hh
    refine ay (fun s t H e=>match s with|(s9b,l7b)=>∃v2b:Nat,∃v7b:Nat,t 1=.int .u16 p1∧t 2=.ptr 2 v2b 0∧t 5=.bool r1∧t 6=.sl false false r5.length (ab (eI .i64) r5)∧t 7=.buf 7 v7b 1 0 (l7b).length∧t 8=.sl false false r9.length (ab (eI .i64) r9)∧t 9=.int .i64 s9b∧H 2=some ⟨v2b,28,[.int .i64 p0.az,.sl false false p0.av.length (ab aM p0.av)],false,false,false⟩∧H 7=some ⟨v7b,4,ab gN l7b,false,true,false⟩) (fun o x t H e=>match o with|(.inl l7bx)=>x=.exit 0∧∃v2bx:Nat,∃v7bx:Nat,t 1=.int .u16 p1∧t 2=.ptr 2 v2bx 0∧t 5=.bool r1∧t 6=.sl false false r5.length (ab (eI .i64) r5)∧t 7=.buf 7 v7bx 1 0 (l7bx).length∧H 2=some ⟨v2bx,28,[.int .i64 p0.az,.sl false false p0.av.length (ab aM p0.av)],false,false,false⟩∧H 7=some ⟨v7bx,4,ab gN l7bx,false,true,false⟩|(.inr r)=>x=.ret∧eR .clean tab none [.tmp 4] ⟨t,EH H,e⟩=some (.clean (.bool r),none)) ho26 ?_ ?_ ?_
    ·refine⟨v2j1,e+1+1,?_⟩
     and_intros<;>first|rfl|(simp only[aj,seval,-Int.reduceToNat,Zj1]<;>rfl)
    ·rintro⟨s9b,l7b⟩ t H e ⟨v2b,v7b,Zb⟩ c hh
     simp only[eX]at hh
     try simp only[aj,seval,-Int.reduceToNat,Zb]
     apply sp al hh<;>intro _ hh
     ·obtain⟨x28,hx28,hh⟩:=ah hh
      have ax28:=bm (eI .i64) hx28
      simp only[bN]at ax28
      try simp only[aj,seval,-Int.reduceToNat,Zb,ax28]
      obtain⟨o29,ho29,hh⟩:=ah hh
      refine E3 0 (fun s t H e=>match s with|s56j5=>∃v2j5:Nat,∃v7j5:Nat,t 1=.int .u16 p1∧t 2=.ptr 2 v2j5 0∧t 5=.bool r1∧t 6=.sl false false r5.length (ab (eI .i64) r5)∧t 7=.buf 7 v7j5 1 0 (l7b).length∧t 8=.sl false false r9.length (ab (eI .i64) r9)∧t 9=.int .i64 s9b∧t 56=.bool s56j5∧H 2=some ⟨v2j5,28,[.int .i64 p0.az,.sl false false p0.av.length (ab aM p0.av)],false,false,false⟩∧H 7=some ⟨v7j5,4,ab gN l7b,false,true,false⟩) (fun s=>s=o29) ?_ ?_
      ·rintro s56j5 t H e ⟨v2j5,v7j5,Zj5⟩ rfl
       try dsimp only at hh
       try simp only[aj,seval,-Int.reduceToNat,Zj5]
       apply sp al hh<;>intro _ hh
       ·cases hh
        try simp only[aj,seval,-Int.reduceToNat]
        refine rz ⟨rfl,?_⟩
        try simp only[aj,seval,-Int.reduceToNat]
       ·have ax28:=bm (eI .i64) hx28
        simp only[bN]at ax28
        obtain⟨x31,hx31,hh⟩:=ah hh
        have ax31:=bm (eI .i64) hx31
        simp only[bN]at ax31
        try simp only[aj,seval,-Int.reduceToNat,Zj5,ax28,ax31]
        obtain⟨o32,ho32,hh⟩:=ah hh
        refine E3 0 (fun s t H e=>match s with|s91j6=>∃v2j6:Nat,∃v7j6:Nat,t 1=.int .u16 p1∧t 2=.ptr 2 v2j6 0∧t 5=.bool r1∧t 6=.sl false false r5.length (ab (eI .i64) r5)∧t 7=.buf 7 v7j6 1 0 (l7b).length∧t 8=.sl false false r9.length (ab (eI .i64) r9)∧t 9=.int .i64 s9b∧t 91=.bool s91j6∧H 2=some ⟨v2j6,28,[.int .i64 p0.az,.sl false false p0.av.length (ab aM p0.av)],false,false,false⟩∧H 7=some ⟨v7j6,4,ab gN l7b,false,true,false⟩) (fun s=>s=o32) ?_ ?_
        ·rintro s91j6 t H e ⟨v2j6,v7j6,Zj6⟩ rfl
         try dsimp only at hh
         try simp only[aj,seval,-Int.reduceToNat,Zj6]
         apply sp al hh<;>intro _ hh
         ·cases hh
          try simp only[aj,seval,-Int.reduceToNat]
          refine rz ⟨rfl,?_⟩
          try simp only[aj,seval,-Int.reduceToNat]
         ·have ax28:=bm (eI .i64) hx28
          simp only[bN]at ax28
          obtain⟨x34,hx34,hh⟩:=ah hh
          have ax34:=bm gN hx34
          simp only[bN]at ax34
          have p35:=eZ gN (x':=true) (fo:=0) (cs:=[.bool true]) hx34 rfl (ahB rfl)
          simp only[bN,Nat.add_zero]at p35
          have up35:=p35
          simp only[putCells,List.length_cons,List.length_nil,agF]at up35
          cases hh
          try simp only[aj,seval,-Int.reduceToNat,ax31,Zj6,ax28,ax34,up35]
          apply gL
          refine⟨v2j6,v7j6,?_⟩
          and_intros<;>first|rfl|(simp only[aj,seval,-Int.reduceToNat,Zj6]<;>rfl)
        ·clear hh
         have hh:=ho32
         try simp only[aj,seval,-Int.reduceToNat]
         apply sp mC hh<;>intro _ hh
         ·try simp only[aj,seval,-Int.reduceToNat]
          refine bt (by kernel_rfl) ?_
          cases hh
          try simp only[aj,seval,-Int.reduceToNat,hr1,hr2,hr5,q8a,q8b,q8c,q8d,q8e,hr9,ax28,Zj5,ax28,ax31]
          rw[an]
          refine⟨_,rfl,?_⟩
          refine⟨v2j5,v7j5,?_⟩
          and_intros<;>first|rfl|(simp only[aj,seval,-Int.reduceToNat,Zj5]<;>rfl)
         ·have ax28:=bm (eI .i64) hx28
          simp only[bN]at ax28
          obtain⟨r37,hr37,hh⟩:=ah hh
          obtain⟨r38,hr38,hh⟩:=ah hh
          try simp only[aj,seval,-Int.reduceToNat,Zj5,ax28,hr37,hr38]
          apply sp mC hh<;>intro _ hh
          ·try simp only[aj,seval,-Int.reduceToNat]
           refine bt (by kernel_rfl) ?_
           cases hh
           try simp only[aj,seval,-Int.reduceToNat,hr1,hr2,hr5,q8a,q8b,q8c,q8d,q8e,hr9,ax28,Zj5,ax28,ax31,ax28,hr37,hr38]
           rw[an]
           refine⟨_,rfl,?_⟩
           refine⟨v2j5,v7j5,?_⟩
           and_intros<;>first|rfl|(simp only[aj,seval,-Int.reduceToNat,Zj5]<;>rfl)
          ·try simp only[aj,seval,-Int.reduceToNat,Zj5]
           apply sp KG hh<;>intro _ hh
           ·obtain⟨x41,hx41,hh⟩:=ah hh
            have ax41:=bm (eI .i64) hx41
            simp only[bN]at ax41
            have ax28:=bm (eI .i64) hx28
            simp only[bN]at ax28
            try simp only[aj,seval,-Int.reduceToNat,Zj5,ax41,ax28]
            refine bt (by kernel_rfl) ?_
            cases hh
            try simp only[aj,seval,-Int.reduceToNat,hr1,hr2,hr5,q8a,q8b,q8c,q8d,q8e,hr9,ax28,Zj5,ax28,ax31,ax28,hr37,hr38,ax41,ax28]
            rw[an]
            refine⟨_,rfl,?_⟩
            refine⟨v2j5,v7j5,?_⟩
            and_intros<;>first|rfl|(simp only[aj,seval,-Int.reduceToNat,Zj5]<;>rfl)
           ·try simp only[aj,seval,-Int.reduceToNat]
            refine bt (by kernel_rfl) ?_
            cases hh
            try simp only[aj,seval,-Int.reduceToNat,hr1,hr2,hr5,q8a,q8b,q8c,q8d,q8e,hr9,ax28,Zj5,ax28,ax31,ax28,hr37,hr38]
            rw[an]
            refine⟨_,rfl,?_⟩
            refine⟨v2j5,v7j5,?_⟩
            and_intros<;>first|rfl|(simp only[aj,seval,-Int.reduceToNat,Zj5]<;>rfl)
      ·clear hh
       have hh:=ho29
       try simp only[aj,seval,-Int.reduceToNat]
       apply sp mC hh<;>intro _ hh
       ·try simp only[aj,seval,-Int.reduceToNat]
        refine bt (by kernel_rfl) ?_
        cases hh
        try simp only[aj,seval,-Int.reduceToNat,hr1,hr2,hr5,q8a,q8b,q8c,q8d,q8e,hr9,Zb,ax28]
        rw[an]
        refine⟨_,rfl,?_⟩
        refine⟨v2b,v7b,?_⟩
        and_intros<;>first|rfl|(simp only[aj,seval,-Int.reduceToNat,Zb]<;>rfl)
       ·have ax28:=bm (eI .i64) hx28
        simp only[bN]at ax28
        try simp only[aj,seval,-Int.reduceToNat,Zb,ax28]
        refine bt (by kernel_rfl) ?_
        cases hh
        try simp only[aj,seval,-Int.reduceToNat,hr1,hr2,hr5,q8a,q8b,q8c,q8d,q8e,hr9,Zb,ax28,ax28]
        rw[an]
        refine⟨_,rfl,?_⟩
        refine⟨v2b,v7b,?_⟩
        and_intros<;>first|rfl|(simp only[aj,seval,-Int.reduceToNat,Zb]<;>rfl)
     ·cases hh
      try simp only[aj,seval,-Int.reduceToNat]
      apply jr
      refine⟨rfl,⟨v2b,v7b,?_⟩⟩
      and_intros<;>first|rfl|(simp only[aj,seval,-Int.reduceToNat,Zb]<;>rfl)
    ·rintro x t H e hx
     rcases o26 with l7bx|rb
     ·dsimp only at hx hh
      obtain⟨rfl,⟨v2bx,v7bx,Zbx⟩⟩:=hx
      try simp only[aj,seval,-Int.reduceToNat]
      obtain⟨o53,ho53,hh⟩:=ah hh
      refine ay (fun s t H e=>match s with|(s10g,s11g)=>∃v2g:Nat,∃v7g:Nat,t 1=.int .u16 p1∧t 2=.ptr 2 v2g 0∧t 5=.bool r1∧t 6=.sl false false r5.length (ab (eI .i64) r5)∧t 7=.buf 7 v7g 1 0 (l7bx).length∧t 10=.bool s10g∧t 11=.int .i64 s11g∧H 2=some ⟨v2g,28,[.int .i64 p0.az,.sl false false p0.av.length (ab aM p0.av)],false,false,false⟩∧H 7=some ⟨v7g,4,ab gN l7bx,false,true,false⟩) (fun o x t H e=>match o with|(.inl s10gx)=>x=.exit 2∧∃v2gx:Nat,∃v7gx:Nat,t 1=.int .u16 p1∧t 2=.ptr 2 v2gx 0∧t 5=.bool r1∧t 7=.buf 7 v7gx 1 0 (l7bx).length∧t 10=.bool s10gx∧H 2=some ⟨v2gx,28,[.int .i64 p0.az,.sl false false p0.av.length (ab aM p0.av)],false,false,false⟩∧H 7=some ⟨v7gx,4,ab gN l7bx,false,true,false⟩|(.inr r)=>x=.ret∧eR .clean tab none [.tmp 4] ⟨t,EH H,e⟩=some (.clean (.bool r),none)) ho53 ?_ ?_ ?_
      ·refine⟨v2bx,v7bx,?_⟩
       and_intros<;>first|rfl|(simp only[aj,seval,-Int.reduceToNat,Zbx]<;>rfl)
      ·rintro⟨s10g,s11g⟩ t H e ⟨v2g,v7g,Zg⟩ c hh
       simp only[fZ]at hh
       try simp only[aj,seval,-Int.reduceToNat,Zg]
       apply sp al hh<;>intro _ hh
       ·obtain⟨x55,hx55,hh⟩:=ah hh
        have ax55:=bm gN hx55
        simp only[bN]at ax55
        obtain⟨x56,hx56,hh⟩:=ah hh
        have ax56:=bm (eI .i64) hx56
        simp only[bN]at ax56
        try simp only[aj,seval,-Int.reduceToNat,Zg,ax55,ax56]
        refine bt (by kernel_rfl) ?_
        try simp only[aj,seval,-Int.reduceToNat,hr1,hr2,hr5,q8a,q8b,q8c,q8d,q8e,hr9,Zg,ax55,ax56]
        apply sp al hh<;>intro _ hh
        ·cases hh
         try simp only[aj,seval,-Int.reduceToNat]
         refine rz ⟨rfl,?_⟩
         try simp only[aj,seval,-Int.reduceToNat]
        ·try simp only[aj,seval,-Int.reduceToNat,Zg]
         apply sp cY hh<;>intro _ hh
         ·obtain⟨x59,hx59,hh⟩:=ah hh
          have q60:=lY hx59
          try simp only[aj,seval,-Int.reduceToNat,Zg,q60]
          apply sp aN hh<;>intro _ hh
          ·cases hh
           try simp only[aj,seval,-Int.reduceToNat,Zg]
           apply gL
           refine⟨v2g,v7g,?_⟩
           and_intros<;>first|rfl|(simp only[aj,seval,-Int.reduceToNat,Zg]<;>rfl)
          ·obtain⟨r62,hr62,hh⟩:=ah hh
           obtain⟨r63,hr63,hh⟩:=ah hh
           cases hh
           try simp only[aj,seval,-Int.reduceToNat,Zg,hr62,hr63]
           apply gL
           refine⟨v2g,v7g,?_⟩
           and_intros<;>first|rfl|(simp only[aj,seval,-Int.reduceToNat,Zg]<;>rfl)
         ·cases hh
          try simp only[aj,seval,-Int.reduceToNat,Zg]
          apply gL
          refine⟨v2g,v7g,?_⟩
          and_intros<;>first|rfl|(simp only[aj,seval,-Int.reduceToNat,Zg]<;>rfl)
       ·cases hh
        try simp only[aj,seval,-Int.reduceToNat]
        apply jr
        refine⟨rfl,⟨v2g,v7g,?_⟩⟩
        and_intros<;>first|rfl|(simp only[aj,seval,-Int.reduceToNat,Zg]<;>rfl)
      ·rintro x t H e hx
       rcases o53 with s10gx|rg
       ·dsimp only at hx hh
        obtain⟨rfl,⟨v2gx,v7gx,Zgx⟩⟩:=hx
        try simp only[aj,seval,-Int.reduceToNat]
        obtain⟨o77,ho77,hh⟩:=ah hh
        refine ay (fun s t H e=>match s with|(s10h,s12h)=>∃v2h:Nat,∃v7h:Nat,t 1=.int .u16 p1∧t 2=.ptr 2 v2h 0∧t 5=.bool r1∧t 7=.buf 7 v7h 1 0 (l7bx).length∧t 10=.bool s10h∧t 12=.int .i64 s12h∧H 2=some ⟨v2h,28,[.int .i64 p0.az,.sl false false p0.av.length (ab aM p0.av)],false,false,false⟩∧H 7=some ⟨v7h,4,ab gN l7bx,false,true,false⟩) (fun o x t H e=>match o with|(.inl s10hx)=>x=.exit 4∧∃v2hx:Nat,∃v7hx:Nat,t 1=.int .u16 p1∧t 2=.ptr 2 v2hx 0∧t 5=.bool r1∧t 7=.buf 7 v7hx 1 0 (l7bx).length∧t 10=.bool s10hx∧H 2=some ⟨v2hx,28,[.int .i64 p0.az,.sl false false p0.av.length (ab aM p0.av)],false,false,false⟩∧H 7=some ⟨v7hx,4,ab gN l7bx,false,true,false⟩|(.inr r)=>x=.ret∧eR .clean tab none [.tmp 4] ⟨t,EH H,e⟩=some (.clean (.bool r),none)) ho77 ?_ ?_ ?_
        ·refine⟨v2gx,v7gx,?_⟩
         and_intros<;>first|rfl|(simp only[aj,seval,-Int.reduceToNat,Zgx]<;>rfl)
        ·rintro⟨s10h,s12h⟩ t H e ⟨v2h,v7h,Zh⟩ c hh
         simp only[gg]at hh
         try simp only[aj,seval,-Int.reduceToNat,Zh]
         apply sp al hh<;>intro _ hh
         ·obtain⟨x79,hx79,hh⟩:=ah hh
          have ax79:=bm aM hx79
          simp only[bN]at ax79
          obtain⟨x80,hx80,hh⟩:=ah hh
          have ax80:=bm gN hx80
          simp only[bN]at ax80
          try simp only[aj,seval,-Int.reduceToNat,Zh,ax79,ax80]
          obtain⟨o81,ho81,hh⟩:=ah hh
          refine bs 0 (fun s t H e=>match s with|s153j10=>∃v2j10:Nat,∃v7j10:Nat,∃v13j10:Nat,t 1=.int .u16 p1∧t 2=.ptr 2 v2j10 0∧t 5=.bool r1∧t 7=.buf 7 v7j10 1 0 (l7bx).length∧t 10=.bool s10h∧t 12=.int .i64 s12h∧t 13=.ptr 13 v13j10 0∧t 153=.bool s153j10∧H 2=some ⟨v2j10,28,[.int .i64 p0.az,.sl false false p0.av.length (ab aM p0.av)],false,false,false⟩∧H 7=some ⟨v7j10,4,ab gN l7bx,false,true,false⟩∧H 13=some ⟨v13j10,63,[.int .i64 x79.bT,.int .i64 x79.gA,.int .i64 x79.bF.aZ.ae,.sl false false x79.bF.aZ.aa.length (ab (eI .i64) x79.bF.aZ.aa),.int .i64 x79.bF.aY.ae,.sl false false x79.bF.aY.aa.length (ab (eI .i64) x79.bF.aY.aa)],false,false,false⟩) (fun s=>s=o81) ?_ ?_
          ·rintro s153j10 t H e ⟨v2j10,v7j10,v13j10,Zj10⟩ rfl
           try dsimp only at hh
           try simp only[aj,seval,-Int.reduceToNat,Zj10]
           apply sp al hh<;>intro _ hh
           ·cases hh
            try simp only[aj,seval,-Int.reduceToNat]
            refine rz ⟨rfl,?_⟩
            try simp only[aj,seval,-Int.reduceToNat]
           ·try simp only[aj,seval,-Int.reduceToNat,Zj10]
            apply sp cY hh<;>intro _ hh
            ·obtain⟨x84,hx84,hh⟩:=ah hh
             have q85:=lY hx84
             try simp only[aj,seval,-Int.reduceToNat,Zj10,q85]
             apply sp aN hh<;>intro _ hh
             ·cases hh
              try simp only[aj,seval,-Int.reduceToNat,Zj10]
              apply gL
              refine⟨v2j10,v7j10,?_⟩
              and_intros<;>first|rfl|(simp only[aj,seval,-Int.reduceToNat,Zj10]<;>rfl)
             ·obtain⟨x87,hx87,hh⟩:=ah hh
              have q88:=lY hx87
              cases hh
              try simp only[aj,seval,-Int.reduceToNat,Zj10,q88]
              apply gL
              refine⟨v2j10,v7j10,?_⟩
              and_intros<;>first|rfl|(simp only[aj,seval,-Int.reduceToNat,Zj10]<;>rfl)
            ·cases hh
             try simp only[aj,seval,-Int.reduceToNat,Zj10]
             apply gL
             refine⟨v2j10,v7j10,?_⟩
             and_intros<;>first|rfl|(simp only[aj,seval,-Int.reduceToNat,Zj10]<;>rfl)
          ·clear hh
           have hh:=ho81
           try simp only[aj,seval,-Int.reduceToNat]
           apply sp cY hh<;>intro _ hh
           ·obtain⟨x90,hx90,hh⟩:=ah hh
            have ax90:=bm gN hx90
            simp only[bN]at ax90
            cases hh
            try simp only[aj,seval,-Int.reduceToNat,Zh,ax90]
            rw[an]
            refine⟨_,rfl,?_⟩
            refine⟨v2h,v7h,e+1,?_⟩
            and_intros<;>first|rfl|(simp only[aj,seval,-Int.reduceToNat,Zh]<;>rfl)
           ·cases hh
            try simp only[aj,seval,-Int.reduceToNat]
            rw[an]
            refine⟨_,rfl,?_⟩
            refine⟨v2h,v7h,e+1,?_⟩
            and_intros<;>first|rfl|(simp only[aj,seval,-Int.reduceToNat,Zh]<;>rfl)
         ·cases hh
          try simp only[aj,seval,-Int.reduceToNat]
          apply jr
          refine⟨rfl,⟨v2h,v7h,?_⟩⟩
          and_intros<;>first|rfl|(simp only[aj,seval,-Int.reduceToNat,Zh]<;>rfl)
        ·rintro x t H e hx
         rcases o77 with s10hx|rh
         ·dsimp only at hx hh
          obtain⟨rfl,⟨v2hx,v7hx,Zhx⟩⟩:=hx
          try simp only[aj,seval,-Int.reduceToNat]
          obtain⟨o99,ho99,hh⟩:=ah hh
          refine ay (fun s t H e=>match s with|s14k=>∃v2k:Nat,∃v7k:Nat,t 1=.int .u16 p1∧t 2=.ptr 2 v2k 0∧t 5=.bool r1∧t 7=.buf 7 v7k 1 0 (l7bx).length∧t 10=.bool s10hx∧t 14=.int .i64 s14k∧H 2=some ⟨v2k,28,[.int .i64 p0.az,.sl false false p0.av.length (ab aM p0.av)],false,false,false⟩∧H 7=some ⟨v7k,4,ab gN l7bx,false,true,false⟩) (fun o x t H e=>match o with|(.inl _)=>x=.exit 6∧t 5=.bool r1|(.inr r)=>x=.ret∧eR .clean tab none [.tmp 4] ⟨t,EH H,e⟩=some (.clean (.bool r),none)) ho99 ?_ ?_ ?_
          ·refine⟨v2hx,v7hx,?_⟩
           and_intros<;>first|rfl|(simp only[aj,seval,-Int.reduceToNat,Zhx]<;>rfl)
          ·rintro s14k t H e ⟨v2k,v7k,Zk⟩ c hh
           simp only[eE]at hh
           try simp only[aj,seval,-Int.reduceToNat,Zk]
           obtain⟨o100,ho100,hh⟩:=ah hh
           refine bs 0 (fun s t H e=>match s with|s177j13=>∃v2j13:Nat,∃v7j13:Nat,t 1=.int .u16 p1∧t 2=.ptr 2 v2j13 0∧t 5=.bool r1∧t 7=.buf 7 v7j13 1 0 (l7bx).length∧t 10=.bool s10hx∧t 14=.int .i64 s14k∧t 177=.bool s177j13∧H 2=some ⟨v2j13,28,[.int .i64 p0.az,.sl false false p0.av.length (ab aM p0.av)],false,false,false⟩∧H 7=some ⟨v7j13,4,ab gN l7bx,false,true,false⟩) (fun s=>s=o100) ?_ ?_
           ·rintro s177j13 t H e ⟨v2j13,v7j13,Zj13⟩ rfl
            try dsimp only at hh
            try simp only[aj,seval,-Int.reduceToNat,Zj13]
            apply sp al hh<;>intro _ hh
            ·obtain⟨x102,hx102,hh⟩:=ah hh
             have q103:=lY hx102
             try simp only[aj,seval,-Int.reduceToNat,Zj13,q103]
             apply sp cY hh<;>intro _ hh
             ·obtain⟨x105,hx105,hh⟩:=ah hh
              have ax105:=bm gN hx105
              simp only[bN]at ax105
              try simp only[aj,seval,-Int.reduceToNat,Zj13,ax105]
              apply sp al hh<;>intro _ hh
              ·cases hh
               try simp only[aj,seval,-Int.reduceToNat]
               refine rz ⟨rfl,?_⟩
               try simp only[aj,seval,-Int.reduceToNat]
              ·cases hh
               try simp only[aj,seval,-Int.reduceToNat,Zj13]
               apply gL
               refine⟨v2j13,v7j13,?_⟩
               and_intros<;>first|rfl|(simp only[aj,seval,-Int.reduceToNat,Zj13]<;>rfl)
             ·cases hh
              try simp only[aj,seval,-Int.reduceToNat,Zj13]
              apply gL
              refine⟨v2j13,v7j13,?_⟩
              and_intros<;>first|rfl|(simp only[aj,seval,-Int.reduceToNat,Zj13]<;>rfl)
            ·cases hh
             try simp only[aj,seval,-Int.reduceToNat]
             apply jr
             refine⟨rfl,?_⟩
             and_intros<;>first|rfl|(simp only[aj,seval,-Int.reduceToNat,Zj13]<;>rfl)
           ·clear hh
            have hh:=ho100
            try simp only[aj,seval,-Int.reduceToNat]
            apply sp cY hh<;>intro _ hh
            ·cases hh
             try simp only[aj,seval,-Int.reduceToNat,Zk]
             rw[an]
             refine⟨_,rfl,?_⟩
             refine⟨v2k,v7k,?_⟩
             and_intros<;>first|rfl|(simp only[aj,seval,-Int.reduceToNat,Zk]<;>rfl)
            ·cases hh
             try simp only[aj,seval,-Int.reduceToNat]
             rw[an]
             refine⟨_,rfl,?_⟩
             refine⟨v2k,v7k,?_⟩
             and_intros<;>first|rfl|(simp only[aj,seval,-Int.reduceToNat,Zk]<;>rfl)
          ·rintro x t H e hx
           rcases o99 with _|rk
           ·dsimp only at hx hh
            obtain⟨rfl,Zkx⟩:=hx
            cases hh
            try simp only[aj,seval,-Int.reduceToNat,Zkx]
           ·dsimp only at hx hh
            obtain⟨rfl,hE⟩:=hx
            cases hh
            try simp only[aU,bd,b7,b5]
            exact hE
         ·dsimp only at hx hh
          obtain⟨rfl,hE⟩:=hx
          cases hh
          try simp only[aU,bd,b7,b5]
          exact hE
       ·dsimp only at hx hh
        obtain⟨rfl,hE⟩:=hx
        cases hh
        try simp only[aU,bd,b7,b5]
        exact hE
     ·dsimp only at hx hh
      obtain⟨rfl,hE⟩:=hx
      cases hh
      try simp only[aU,bd,b7,b5]
      exact hE
 ·clear hh
  have hh:=ho3
  try simp only[aj,seval,-Int.reduceToNat]
  apply sp aN hh<;>intro _ hh
  ·cases hh
   try simp only[aj,seval,-Int.reduceToNat]
   rw[an]
   refine⟨_,rfl,?_⟩
   refine⟨0,?_⟩
   and_intros<;>first|rfl|(simp only[aj,seval,-Int.reduceToNat,hr1,hr2]<;>rfl)
  ·obtain⟨r109,hr109,hh⟩:=ah hh
   cases hh
   try simp only[aj,seval,-Int.reduceToNat,hr109]
   rw[an]
   refine⟨_,rfl,?_⟩
   refine⟨0,?_⟩
   and_intros<;>first|rfl|(simp only[aj,seval,-Int.reduceToNat,hr1,hr2,hr109]<;>rfl)
theorem yd:bP prog 6 yS:=bP.gr (mode := .clean) tok xK mixed func6 (by kernel_rfl) (fun _=>by kernel_rfl) (fun x r h=>zf x.1 x.2 r h)
end Go.Proofs.YtmcncjgbkobjnaaGreat.Am
namespace Go.Proofs.YtmcncjgbkobjnaaGreat.Am
open Go.ChangeShapes Go.WideShapes Go.ChangeAt Go.RowKit Go.Proofs.YtmcncjgbkobjnaaGreat.P
set_option maxRecDepth 100000
end Go.Proofs.YtmcncjgbkobjnaaGreat.Am
