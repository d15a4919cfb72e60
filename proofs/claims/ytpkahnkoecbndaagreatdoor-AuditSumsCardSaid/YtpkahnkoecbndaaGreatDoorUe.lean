/- Part of a proof, made small by a program (wip/mini.py). -/
import Derived.Test.YtpkahnkoecbndaaGreatDoorUd
namespace Go.Proofs.YtpkahnkoecbndaaGreatDoor.Am
open Go.RowKit Go.Proofs.YtpkahnkoecbndaaGreatDoor.P
set_option maxRecDepth 100000
set_option maxHeartbeats 4000000
set_option linter.unusedSimpArgs false
set_option linter.unusedVariables false
theorem CM (pre post:List D) (p0:(List Int)) (p1:(List Int)) (p2:Int) (r:(List Int)×(Int)) (hh:fv p0 p1 p2=some r):aQ .clean tab aS FU Tryz.f165 (some (.buf 0 0 1 pre.length p0.length,⟨0,3,pre++(ab (eI .i64) p0++post),false,true,false⟩)) [.sl false false p1.length (ab (eI .i64) p1),.int .i64 p2]=some (.clean (.int .i64 r.2),some ⟨0,3,pre++(ab (eI .i64) r.1++post),false,true,false⟩):=by
 refine oW rfl Tryz.ntmps165 Tryz.results165 ?_
 unfold fv at hh
 obtain⟨rw,hrw,hh⟩:=ae hh
 split at hh
 rotate_left
 ·cases hh
 cases hh
 rename_i hlen
 replace hh:=hrw
 unfold ox at hh
 try simp only[w,seval,-Int.reduceToNat]
 obtain⟨o9,ho9,hh⟩:=ae hh
 refine aA (fun s t H e=>match s with|(s7a,s14a,l0a)=>t 0=.buf 0 0 1 pre.length (l0a).length∧t 1=.sl false false p1.length (ab (eI .i64) p1)∧t 2=.int .i64 p2∧t 7=.int .i64 s7a∧t 13=.int .i64 ((p0).length:Int)∧t 14=.int .i64 s14a∧H 0=some ⟨0,3,pre++(ab (eI .i64) l0a++post),false,true,false⟩) (fun o x t H e=>match o with|(s7ax,l0ax)=>x=.exit 0∧t 0=.buf 0 0 1 pre.length (l0ax).length∧t 1=.sl false false p1.length (ab (eI .i64) p1)∧t 2=.int .i64 p2∧t 7=.int .i64 s7ax∧H 0=some ⟨0,3,pre++(ab (eI .i64) l0ax++post),false,true,false⟩) ho9 ?_ ?_ ?_
 ·refine⟨?_,?_,?_,?_,?_,?_,?_⟩
  all_goals first|rfl|(simp only[w,seval,-Int.reduceToNat]<;>rfl)
 ·rintro⟨s7a,s14a,l0a⟩ t H e Za c hh
  simp only[jY]at hh
  try simp only[w,seval,-Int.reduceToNat,Za]
  refine sp aj hh (fun _ hh =>?_) (fun _ hh =>?_)
  ·obtain⟨x11,hx11,hh⟩:=ae hh
   have ax11:=tQ (pre:=pre) (post:=post) (eI .i64) hx11
   simp only[bU]at ax11
   try simp only[w,seval,-Int.reduceToNat,Za,ax11]
   obtain⟨o12,ho12,hh⟩:=ae hh
   refine iK 0 (fun s t H e=>match s with|s9j3=>t 0=.buf 0 0 1 pre.length (l0a).length∧t 1=.sl false false p1.length (ab (eI .i64) p1)∧t 2=.int .i64 p2∧t 8=.int .i64 s14a∧t 9=.int .i64 s9j3∧t 13=.int .i64 ((p0).length:Int)∧t 14=.int .i64 s14a∧H 0=some ⟨0,3,pre++(ab (eI .i64) l0a++post),false,true,false⟩) (fun s=>s=o12) ?_ ?_
   ·rintro s9j3 t H e Zj3 rfl
    try dsimp only at hh
    have ax11:=tQ (pre:=pre) (post:=post) (eI .i64) hx11
    simp only[bU]at ax11
    have p13:=xV (pre:=pre) (post:=post) (eI .i64) (y':=jK .and .i64 s9j3 1048575) hx11
    simp only[bU]at p13
    have up13:=p13
    simp only[putCells,List.length_cons,List.length_nil,Nat.zero_add,Nat.reduceAdd]at up13
    obtain⟨x14,hx14,hh⟩:=ae hh
    have q15:=n9 hx14
    cases hh
    try simp only[w,seval,-Int.reduceToNat,ax11,Zj3,ax11,p13,up13,q15]
    refine jB ?_
    refine⟨?_,?_,?_,?_,?_,?_,?_⟩
    all_goals first|rfl|(simp only[w,seval,-Int.reduceToNat,ax11,Zj3,ax11,p13,up13,q15]<;>rfl)
   ·clear hh
    have hh:=ho12
    try simp only[w,seval,-Int.reduceToNat,Za,ax11]
    refine sp aj hh (fun _ hh =>?_) (fun _ hh =>?_)
    ·obtain⟨x17,hx17,hh⟩:=ae hh
     have ax17:=bG (eI .i64) hx17
     simp only[bU]at ax17
     cases hh
     try simp only[w,seval,-Int.reduceToNat,Za,ax11,ax17]
     rw[ak]
     refine⟨_,rfl,?_⟩
     refine⟨?_,?_,?_,?_,?_,?_,?_,?_⟩
     all_goals first|rfl|(simp only[w,seval,-Int.reduceToNat,Za,ax11,ax17]<;>rfl)
    ·cases hh
     try simp only[w,seval,-Int.reduceToNat,Za,ax11]
     rw[ak]
     refine⟨_,rfl,?_⟩
     refine⟨?_,?_,?_,?_,?_,?_,?_,?_⟩
     all_goals first|rfl|(simp only[w,seval,-Int.reduceToNat,Za,ax11]<;>rfl)
  ·cases hh
   try simp only[w,seval,-Int.reduceToNat,Za]
   refine kH ?_
   refine⟨rfl,⟨?_,?_,?_,?_,?_⟩⟩
   all_goals first|rfl|(simp only[w,seval,-Int.reduceToNat,Za]<;>rfl)
 ·rintro x t H e hx
  rcases o9 with⟨s7ax,l0ax⟩
  dsimp only at hx hh
  obtain⟨rfl,Zax⟩:=hx
  try simp only[w,seval,-Int.reduceToNat,Zax]
  refine sp aj hh (fun _ hh =>?_) (fun _ hh =>?_)
  ·cases hh
   try simp only[w,seval,-Int.reduceToNat,Zax]
  ·try simp only[w,seval,-Int.reduceToNat,Zax]
   obtain⟨o27,ho27,hh⟩:=ae hh
   refine aA (fun s t H e=>match s with|(s10d,s49d,l0d)=>t 0=.buf 0 0 1 pre.length (l0d).length∧t 1=.sl false false p1.length (ab (eI .i64) p1)∧t 2=.int .i64 p2∧t 10=.int .i64 s10d∧t 48=.int .i64 ((l0ax).length:Int)∧t 49=.int .i64 s49d∧H 0=some ⟨0,3,pre++(ab (eI .i64) l0d++post),false,true,false⟩) (fun o x t H e=>match o with|l0dx=>x=.exit 2∧t 0=.buf 0 0 1 pre.length (l0dx).length∧t 2=.int .i64 p2∧H 0=some ⟨0,3,pre++(ab (eI .i64) l0dx++post),false,true,false⟩) ho27 ?_ ?_ ?_
   ·refine⟨?_,?_,?_,?_,?_,?_,?_⟩
    all_goals first|rfl|(simp only[w,seval,-Int.reduceToNat,Zax]<;>rfl)
   ·rintro⟨s10d,s49d,l0d⟩ t H e Zd c hh
    simp only[jZ]at hh
    try simp only[w,seval,-Int.reduceToNat,Zd]
    refine sp aj hh (fun _ hh =>?_) (fun _ hh =>?_)
    ·obtain⟨x29,hx29,hh⟩:=ae hh
     have ax29:=tQ (pre:=pre) (post:=post) (eI .i64) hx29
     simp only[bU]at ax29
     try simp only[w,seval,-Int.reduceToNat,Zd,ax29]
     obtain⟨o30,ho30,hh⟩:=ae hh
     refine iK 0 (fun s t H e=>match s with|s10j6=>t 0=.buf 0 0 1 pre.length (l0d).length∧t 1=.sl false false p1.length (ab (eI .i64) p1)∧t 2=.int .i64 p2∧t 10=.int .i64 s10j6∧t 11=.int .i64 s49d∧t 48=.int .i64 ((l0ax).length:Int)∧t 49=.int .i64 s49d∧H 0=some ⟨0,3,pre++(ab (eI .i64) l0d++post),false,true,false⟩) (fun s=>s=o30) ?_ ?_
     ·rintro s10j6 t H e Zj6 rfl
      try dsimp only at hh
      have ax29:=tQ (pre:=pre) (post:=post) (eI .i64) hx29
      simp only[bU]at ax29
      have p31:=xV (pre:=pre) (post:=post) (eI .i64) (y':=jK .and .i64 s10j6 1048575) hx29
      simp only[bU]at p31
      have up31:=p31
      simp only[putCells,List.length_cons,List.length_nil,Nat.zero_add,Nat.reduceAdd]at up31
      obtain⟨x32,hx32,hh⟩:=ae hh
      have q33:=n9 hx32
      cases hh
      try simp only[w,seval,-Int.reduceToNat,ax29,Zj6,ax29,p31,up31,q33]
      refine jB ?_
      refine⟨?_,?_,?_,?_,?_,?_,?_⟩
      all_goals first|rfl|(simp only[w,seval,-Int.reduceToNat,ax29,Zj6,ax29,p31,up31,q33]<;>rfl)
     ·clear hh
      have hh:=ho30
      try simp only[w,seval,-Int.reduceToNat,Zd,ax29]
      refine sp aj hh (fun _ hh =>?_) (fun _ hh =>?_)
      ·obtain⟨x35,hx35,hh⟩:=ae hh
       have ax35:=bG (eI .i64) hx35
       simp only[bU]at ax35
       cases hh
       try simp only[w,seval,-Int.reduceToNat,Zd,ax29,ax35]
       rw[ak]
       refine⟨_,rfl,?_⟩
       refine⟨?_,?_,?_,?_,?_,?_,?_,?_⟩
       all_goals first|rfl|(simp only[w,seval,-Int.reduceToNat,Zd,ax29,ax35]<;>rfl)
      ·cases hh
       try simp only[w,seval,-Int.reduceToNat,Zd,ax29]
       rw[ak]
       refine⟨_,rfl,?_⟩
       refine⟨?_,?_,?_,?_,?_,?_,?_,?_⟩
       all_goals first|rfl|(simp only[w,seval,-Int.reduceToNat,Zd,ax29]<;>rfl)
    ·cases hh
     try simp only[w,seval,-Int.reduceToNat,Zd]
     refine kH ?_
     refine⟨rfl,⟨?_,?_,?_⟩⟩
     all_goals first|rfl|(simp only[w,seval,-Int.reduceToNat,Zd]<;>rfl)
   ·rintro x t H e hx
    obtain⟨l0dx,rfl⟩:∃z,z=o27:=⟨_,rfl⟩
    dsimp only at hx hh
    obtain⟨rfl,Zdx⟩:=hx
    cases hh
    try simp only[w,seval,-Int.reduceToNat,Zdx]
theorem AS:bH Tryz.prog 165 oo:=bH.O6 (mode := .clean) tok bN.none mixed Tryz.func165 (by kernel_rfl) ⟨by kernel_rfl,by kernel_rfl⟩ (fun _=>Nat.le_of_ble_eq_true (by kernel_rfl)) (fun pre post l x l' r h=>CM pre post l x.1 x.2 (l',r) h)
noncomputable def uz:=eL (ec (iE (eI .i64)) (dJ (iE (eI .i64)))) (fun x:(List Int)×(List Int)=>pg x.1 x.2) (fun r:(List Int)×(List Int) =>.clean (.tup [.sl false false r.1.length (ab (eI .i64) r.1),.sl false false r.2.length (ab (eI .i64) r.2)]))
theorem ve (p0:(List Int)) (p1:(List Int)):uz none [.sl false false p0.length (ab (eI .i64) p0),.sl false false p1.length (ab (eI .i64) p1)]=(pg p0 p1).map fun r:(List Int)×(List Int)=>(.clean (.tup [.sl false false r.1.length (ab (eI .i64) r.1),.sl false false r.2.length (ab (eI .i64) r.2)]),none):=aK _ _ _ (p0,p1)
noncomputable def uV:Env:=(Am.ext (Am.ext (Am.ext (Am.ext (Am.ext (Am.ext aS 65 false dI) 129 false jI) 162 false sW) 163 false j9) 164 false uA) 165 true oo)
theorem MD:bN Tryz.prog uV:=((((((bN.none.add eT false).add oO false).add HS false).add mD false).add C1 false).add AS true)
theorem aX:type_of% (ai @w<|ai @ck<|ai @iQ<|ai @Ab<|ai @fp<|ai @od<|@uV.eq_1):=⟨@w,@ck,@iQ,@Ab,@fp,@od,@uV.eq_1⟩
theorem QJ (p0:(List Int)) (p1:(List Int)) (r:(List Int)×(List Int)) (hh:pg p0 p1=some r):aQ .clean tab uV FU Tryz.f125 none [.sl false false p0.length (ab (eI .i64) p0),.sl false false p1.length (ab (eI .i64) p1)]=some (.clean (.tup [.sl false false r.1.length (ab (eI .i64) r.1),.sl false false r.2.length (ab (eI .i64) r.2)]),none):=by
 refine av rfl Tryz.ntmps125 Tryz.results125 ?_
 unfold pg at hh
 obtain⟨r1,hr1,hh⟩:=ae hh
 try simp only[aX,seval,-Int.reduceToNat,hr1]
 refine sp aj hh (fun _ hh =>?_) (fun _ hh =>?_)
 ·obtain⟨r3,hr3,hh⟩:=ae hh
  cases hh
  try simp only[aX,seval,-Int.reduceToNat,hr1,hr3]
 ·try simp only[aX,seval,-Int.reduceToNat,hr1]
  refine sp aj hh (fun _ hh =>?_) (fun _ hh =>?_)
  ·obtain⟨x5,hx5,hh⟩:=ae hh
   have ax5:=bG (eI .i64) hx5
   simp only[bU]at ax5
   obtain⟨r6,hr6,hh⟩:=ae hh
   have i7:=fp ([r6.2])
   simp only[aP,bU,List.length_cons,List.length_nil,Nat.zero_add,Nat.reduceAdd,List.length_set]at i7
   obtain⟨r8,hr8,hh⟩:=ae hh
   cases hh
   try simp only[aX,seval,-Int.reduceToNat,hr1,ax5,hr6,i7,hr8]
  ·try simp only[aX,seval,-Int.reduceToNat,hr1]
   obtain⟨o11,ho11,hh⟩:=ae hh
   refine aA (fun s t H e=>match s with|s8a=>t 0=.sl false false p0.length (ab (eI .i64) p0)∧t 1=.sl false false p1.length (ab (eI .i64) p1)∧t 8=.int .i64 s8a) (fun o x t H e=>match o with|s8ax=>x=.exit 0∧t 0=.sl false false p0.length (ab (eI .i64) p0)∧t 1=.sl false false p1.length (ab (eI .i64) p1)∧t 8=.int .i64 s8ax) ho11 ?_ ?_ ?_
   ·refine⟨?_,?_,?_⟩
    all_goals first|rfl|(simp only[aX,seval,-Int.reduceToNat,hr1]<;>rfl)
   ·rintro s8a t H e Za c hh
    simp only[qZ]at hh
    obtain⟨x12,hx12,hh⟩:=ae hh
    have ax12:=bG (eI .i64) hx12
    simp only[bU]at ax12
    try simp only[aX,seval,-Int.reduceToNat,hr1,Za,ax12]
    refine sp aj hh (fun _ hh =>?_) (fun _ hh =>?_)
    ·cases hh
     try simp only[aX,seval,-Int.reduceToNat,hr1,Za,ax12]
     refine jB ?_
     refine⟨?_,?_,?_⟩
     all_goals first|rfl|(simp only[aX,seval,-Int.reduceToNat,hr1,Za,ax12]<;>rfl)
    ·cases hh
     try simp only[aX,seval,-Int.reduceToNat,hr1,Za,ax12]
     refine kH ?_
     refine⟨rfl,⟨?_,?_,?_⟩⟩
     all_goals first|rfl|(simp only[aX,seval,-Int.reduceToNat,hr1,Za,ax12]<;>rfl)
   ·rintro x t H e hx
    obtain⟨s8ax,rfl⟩:∃z,z=o11:=⟨_,rfl⟩
    dsimp only at hx hh
    obtain⟨rfl,Zax⟩:=hx
    have i14:=od p0 ([s8ax])
    simp only[aP,bU,List.length_cons,List.length_nil,Nat.zero_add,Nat.reduceAdd,List.length_set]at i14
    obtain⟨r15,hr15,hh⟩:=ae hh
    obtain⟨x16,hx16,hh⟩:=ae hh
    obtain⟨q17a,q17b,q17c,q17d⟩:=fi (eI .i64) hx16
    simp only[bU]at q17b
    have i18:=od p1 ([s8ax])
    simp only[aP,bU,List.length_cons,List.length_nil,Nat.zero_add,Nat.reduceAdd,List.length_set]at i18
    obtain⟨r19,hr19,hh⟩:=ae hh
    try simp only[aX,seval,-Int.reduceToNat,hr1,Zax,i14,hr15,q17a,q17b,q17c,q17d,i18,hr19]
    obtain⟨o20,ho20,hh⟩:=ae hh
    refine iK 0 (fun s t H e=>match s with|l9j2=>∃v9j2:Nat,∃v10j2:Nat,t 8=.int .i64 s8ax∧t 9=.buf 9 v9j2 1 0 (l9j2).length∧t 10=.buf 10 v10j2 1 0 (r19).length∧H 9=some ⟨v9j2,3,ab (eI .i64) l9j2,false,true,false⟩∧H 10=some ⟨v10j2,3,ab (eI .i64) r19,false,true,false⟩) (fun s=>s=o20) ?_ ?_
    ·rintro l9j2 t H e ⟨v9j2,v10j2,Zj2⟩ rfl
     try dsimp only at hh
     obtain⟨x21,hx21,hh⟩:=ae hh
     obtain⟨q22a,q22b,q22c,q22d,q22e⟩:=mk_one (eI .i64) hx21
     simp only[bU]at q22d
     try simp only[aX,seval,-Int.reduceToNat,hr1,i14,hr15,q17a,q17b,q17c,q17d,i18,hr19,Zj2,q22a,q22b,q22c,q22d,q22e]
     obtain⟨o58,ho58,hh⟩:=ae hh
     refine aA (fun s t H e=>match s with|(s13c,l9c,l12c)=>∃v9c:Nat,∃v10c:Nat,∃v12c:Nat,∃z10c:Bool,t 8=.int .i64 s8ax∧t 9=.buf 9 v9c 1 0 (l9c).length∧t 10=.buf 10 v10c 1 0 (r19).length∧t 11=.int .i64 ((r19).length:Int)∧t 12=.buf 12 v12c 1 0 (l12c).length∧t 13=.int .i64 s13c∧H 9=some ⟨v9c,3,ab (eI .i64) l9c,false,true,false⟩∧H 10=some ⟨v10c,3,ab (eI .i64) r19,z10c,true,false⟩∧H 12=some ⟨v12c,3,ab (eI .i64) l12c,false,true,false⟩) (fun o x t H e=>match o with|(l9cx,l12cx)=>x=.exit 2∧∃v9cx:Nat,∃v12cx:Nat,t 8=.int .i64 s8ax∧t 9=.buf 9 v9cx 1 0 (l9cx).length∧t 12=.buf 12 v12cx 1 0 (l12cx).length∧H 9=some ⟨v9cx,3,ab (eI .i64) l9cx,false,true,false⟩∧H 12=some ⟨v12cx,3,ab (eI .i64) l12cx,false,true,false⟩) ho58 ?_ ?_ ?_
     ·refine⟨v9j2,v10j2,e+1,false,?_,?_,?_,?_,?_,?_,?_,?_,?_⟩
      all_goals first|rfl|(simp only[aX,seval,-Int.reduceToNat,hr1,i14,hr15,q17a,q17b,q17c,q17d,i18,hr19,Zj2,q22a,q22b,q22c,q22d,q22e]<;>rfl)
     ·rintro⟨s13c,l9c,l12c⟩ t H e ⟨v9c,v10c,v12c,z10c,Zc⟩ c hh
      simp only[q8]at hh
      try simp only[aX,seval,-Int.reduceToNat,hr1,i14,hr15,q17a,q17b,q17c,q17d,i18,hr19,q22a,q22b,q22c,q22d,q22e,Zc]
      refine sp aj hh (fun _ hh =>?_) (fun _ hh =>?_)
      ·obtain⟨x60,hx60,hh⟩:=ae hh
       have ax60:=bG (eI .i64) hx60
       simp only[bU]at ax60
       obtain⟨x61,hx61,hh⟩:=ae hh
       have q62:=Bb hx61
       obtain⟨x63,hx63,hh⟩:=ae hh
       have ax63:=bG (eI .i64) hx63
       simp only[bU]at ax63
       try simp only[aX,seval,-Int.reduceToNat,hr1,i14,hr15,q17a,q17b,q17c,q17d,i18,hr19,q22a,q22b,q22c,q22d,q22e,Zc,ax60,q62,ax63]
       refine bI (by kernel_rfl) ?_
       obtain⟨x64,hx64,hh⟩:=ae hh
       have ax64:=bG (eI .i64) hx64
       simp only[bU]at ax64
       obtain⟨x65,hx65,hh⟩:=ae hh
       have q66:=rj hx65
       have ax64:=bG (eI .i64) hx64
       simp only[bU]at ax64
       obtain⟨x67,hx67,hh⟩:=ae hh
       have q68:=rL hx67
       try simp only[aX,seval,-Int.reduceToNat,hr1,i14,hr15,q17a,q17b,q17c,q17d,i18,hr19,q22a,q22b,q22c,q22d,q22e,Zc,ax60,q62,ax63,ax64,q66,ax64,q68]
       refine bI (by kernel_rfl) ?_
       try simp only[aX,seval,-Int.reduceToNat,hr1,i14,hr15,q17a,q17b,q17c,q17d,i18,hr19,q22a,q22b,q22c,q22d,q22e,Zc,ax60,q62,ax63,ax64,q66,ax64,q68]
       obtain⟨o78,ho78,hh⟩:=ae hh
       refine aA (fun s t H e=>match s with|(s15g,s16g)=>∃v9g:Nat,∃v10g:Nat,∃v12g:Nat,∃z10g:Bool,t 8=.int .i64 s8ax∧t 9=.buf 9 v9g 1 0 (l9c).length∧t 10=.buf 10 v10g 1 0 (r19).length∧t 11=.int .i64 ((r19).length:Int)∧t 12=.buf 12 v12g 1 0 (l12c).length∧t 13=.int .i64 s13c∧t 15=.int .i64 s15g∧t 16=.int .i64 s16g∧H 9=some ⟨v9g,3,ab (eI .i64) l9c,false,true,false⟩∧H 10=some ⟨v10g,3,ab (eI .i64) r19,z10g,true,false⟩∧H 12=some ⟨v12g,3,ab (eI .i64) l12c,false,true,false⟩) (fun o x t H e=>match o with|s15gx=>x=.exit 4∧∃v9gx:Nat,∃v10gx:Nat,∃v12gx:Nat,∃z10gx:Bool,t 8=.int .i64 s8ax∧t 9=.buf 9 v9gx 1 0 (l9c).length∧t 10=.buf 10 v10gx 1 0 (r19).length∧t 11=.int .i64 ((r19).length:Int)∧t 12=.buf 12 v12gx 1 0 (l12c).length∧t 13=.int .i64 s13c∧t 15=.int .i64 s15gx∧H 9=some ⟨v9gx,3,ab (eI .i64) l9c,false,true,false⟩∧H 10=some ⟨v10gx,3,ab (eI .i64) r19,z10gx,true,false⟩∧H 12=some ⟨v12gx,3,ab (eI .i64) l12c,false,true,false⟩) ho78 ?_ ?_ ?_
       ·refine⟨v9c,v10c,v12c,z10c,?_,?_,?_,?_,?_,?_,?_,?_,?_,?_,?_⟩
        all_goals first|rfl|(simp only[aX,seval,-Int.reduceToNat,hr1,i14,hr15,q17a,q17b,q17c,q17d,i18,hr19,q22a,q22b,q22c,q22d,q22e,Zc,ax60,q62,ax63,ax64,q66,ax64,q68]<;>rfl)
       ·rintro⟨s15g,s16g⟩ t H e ⟨v9g,v10g,v12g,z10g,Zg⟩ c hh
        simp only[q9]at hh
        try simp only[aX,seval,-Int.reduceToNat,hr1,i14,hr15,q17a,q17b,q17c,q17d,i18,hr19,q22a,q22b,q22c,q22d,q22e,ax60,q62,ax63,ax64,q66,ax64,q68,Zg]
        obtain⟨o79,ho79,hh⟩:=ae hh
        refine LX 0 (fun s t H e=>match s with|s137j9=>∃v9j9:Nat,∃v10j9:Nat,∃v12j9:Nat,∃z10j9:Bool,t 8=.int .i64 s8ax∧t 9=.buf 9 v9j9 1 0 (l9c).length∧t 10=.buf 10 v10j9 1 0 (r19).length∧t 11=.int .i64 ((r19).length:Int)∧t 12=.buf 12 v12j9 1 0 (l12c).length∧t 13=.int .i64 s13c∧t 15=.int .i64 s15g∧t 16=.int .i64 s16g∧t 137=.bool s137j9∧H 9=some ⟨v9j9,3,ab (eI .i64) l9c,false,true,false⟩∧H 10=some ⟨v10j9,3,ab (eI .i64) r19,z10j9,true,false⟩∧H 12=some ⟨v12j9,3,ab (eI .i64) l12c,false,true,false⟩) (fun s=>s=o79) ?_ ?_
        ·rintro s137j9 t H e ⟨v9j9,v10j9,v12j9,z10j9,Zj9⟩ rfl
         try dsimp only at hh
         try simp only[aX,seval,-Int.reduceToNat,hr1,i14,hr15,q17a,q17b,q17c,q17d,i18,hr19,q22a,q22b,q22c,q22d,q22e,ax60,q62,ax63,ax64,q66,ax64,q68,Zj9]
         refine sp aj hh (fun _ hh =>?_) (fun _ hh =>?_)
         ·have ax64:=bG (eI .i64) hx64
          simp only[bU]at ax64
          cases hh
          try simp only[aX,seval,-Int.reduceToNat,hr1,i14,hr15,q17a,q17b,q17c,q17d,i18,hr19,q22a,q22b,q22c,q22d,q22e,ax60,q62,ax63,ax64,q66,ax64,q68,Zj9,ax64]
          refine jB ?_
          refine⟨v9j9,v10j9,v12j9,z10j9,?_,?_,?_,?_,?_,?_,?_,?_,?_,?_,?_⟩
          all_goals first|rfl|(simp only[aX,seval,-Int.reduceToNat,hr1,i14,hr15,q17a,q17b,q17c,q17d,i18,hr19,q22a,q22b,q22c,q22d,q22e,ax60,q62,ax63,ax64,q66,ax64,q68,Zj9,ax64]<;>rfl)
         ·cases hh
          try simp only[aX,seval,-Int.reduceToNat,hr1,i14,hr15,q17a,q17b,q17c,q17d,i18,hr19,q22a,q22b,q22c,q22d,q22e,ax60,q62,ax63,ax64,q66,ax64,q68,Zj9]
          refine kH ?_
          refine⟨rfl,⟨v9j9,v10j9,v12j9,z10j9,?_,?_,?_,?_,?_,?_,?_,?_,?_,?_⟩⟩
          all_goals first|rfl|(simp only[aX,seval,-Int.reduceToNat,hr1,i14,hr15,q17a,q17b,q17c,q17d,i18,hr19,q22a,q22b,q22c,q22d,q22e,ax60,q62,ax63,ax64,q66,ax64,q68,Zj9]<;>rfl)
        ·clear hh
         have hh:=ho79
         try simp only[aX,seval,-Int.reduceToNat,hr1,i14,hr15,q17a,q17b,q17c,q17d,i18,hr19,q22a,q22b,q22c,q22d,q22e,ax60,q62,ax63,ax64,q66,ax64,q68,Zg]
         refine sp LW hh (fun _ hh =>?_) (fun _ hh =>?_)
         ·try simp only[aX,seval,-Int.reduceToNat,hr1,i14,hr15,q17a,q17b,q17c,q17d,i18,hr19,q22a,q22b,q22c,q22d,q22e,ax60,q62,ax63,ax64,q66,ax64,q68,Zg]
          refine bI (by kernel_rfl) ?_
          cases hh
          try simp only[aX,seval,-Int.reduceToNat,hr1,i14,hr15,q17a,q17b,q17c,q17d,i18,hr19,q22a,q22b,q22c,q22d,q22e,ax60,q62,ax63,ax64,q66,ax64,q68,Zg]
          rw[ak]
          refine⟨_,rfl,?_⟩
          refine⟨v9g,v10g,v12g,z10g,?_,?_,?_,?_,?_,?_,?_,?_,?_,?_,?_,?_⟩
          all_goals first|rfl|(simp only[aX,seval,-Int.reduceToNat,hr1,i14,hr15,q17a,q17b,q17c,q17d,i18,hr19,q22a,q22b,q22c,q22d,q22e,ax60,q62,ax63,ax64,q66,ax64,q68,Zg]<;>rfl)
         ·try simp only[aX,seval,-Int.reduceToNat,hr1,i14,hr15,q17a,q17b,q17c,q17d,i18,hr19,q22a,q22b,q22c,q22d,q22e,ax60,q62,ax63,ax64,q66,ax64,q68,Zg]
          refine sp mq hh (fun _ hh =>?_) (fun _ hh =>?_)
          ·obtain⟨x83,hx83,hh⟩:=ae hh
           have ax83:=bG (eI .i64) hx83
           simp only[bU]at ax83
           obtain⟨x84,hx84,hh⟩:=ae hh
           have q85:=Bb hx84
           obtain⟨x86,hx86,hh⟩:=ae hh
           have ax86:=bG (eI .i64) hx86
           simp only[bU]at ax86
           try simp only[aX,seval,-Int.reduceToNat,hr1,i14,hr15,q17a,q17b,q17c,q17d,i18,hr19,q22a,q22b,q22c,q22d,q22e,ax60,q62,ax63,ax64,q66,ax64,q68,Zg,ax83,q85,ax86]
           refine bI (by kernel_rfl) ?_
           cases hh
           try simp only[aX,seval,-Int.reduceToNat,hr1,i14,hr15,q17a,q17b,q17c,q17d,i18,hr19,q22a,q22b,q22c,q22d,q22e,ax60,q62,ax63,ax64,q66,ax64,q68,Zg,ax83,q85,ax86]
           rw[ak]
           refine⟨_,rfl,?_⟩
           refine⟨v9g,v10g,v12g,z10g,?_,?_,?_,?_,?_,?_,?_,?_,?_,?_,?_,?_⟩
           all_goals first|rfl|(simp only[aX,seval,-Int.reduceToNat,hr1,i14,hr15,q17a,q17b,q17c,q17d,i18,hr19,q22a,q22b,q22c,q22d,q22e,ax60,q62,ax63,ax64,q66,ax64,q68,Zg,ax83,q85,ax86]<;>rfl)
          ·try simp only[aX,seval,-Int.reduceToNat,hr1,i14,hr15,q17a,q17b,q17c,q17d,i18,hr19,q22a,q22b,q22c,q22d,q22e,ax60,q62,ax63,ax64,q66,ax64,q68,Zg]
           refine bI (by kernel_rfl) ?_
           cases hh
           try simp only[aX,seval,-Int.reduceToNat,hr1,i14,hr15,q17a,q17b,q17c,q17d,i18,hr19,q22a,q22b,q22c,q22d,q22e,ax60,q62,ax63,ax64,q66,ax64,q68,Zg]
           rw[ak]
           refine⟨_,rfl,?_⟩
           refine⟨v9g,v10g,v12g,z10g,?_,?_,?_,?_,?_,?_,?_,?_,?_,?_,?_,?_⟩
           all_goals first|rfl|(simp only[aX,seval,-Int.reduceToNat,hr1,i14,hr15,q17a,q17b,q17c,q17d,i18,hr19,q22a,q22b,q22c,q22d,q22e,ax60,q62,ax63,ax64,q66,ax64,q68,Zg]<;>rfl)
       ·rintro x t H e hx
        obtain⟨s15gx,rfl⟩:∃z,z=o78:=⟨_,rfl⟩
        dsimp only at hx hh
        obtain⟨rfl,⟨v9gx,v10gx,v12gx,z10gx,Zgx⟩⟩:=hx
        obtain⟨x87,hx87,hh⟩:=ae hh
        obtain⟨q88a,q88b,q88c,q88d,q88e⟩:=Xm (eI .i64) hx87
        simp only[bU]at q88e
        have i89:=C9 (ab (eI .i64) (l9c.take (s13c).toNat)) (ab (eI .i64) (l9c.drop (IntKind.i64.wrap ((IntKind.i64.wrap (s13c+((r19).length:Int)))+1)).toNat)) x87 r19 s15gx
        simp only[VT,VU (eI .i64) hx87,VV (eI .i64) hx87,WI hx87,bU,Int.toNat_zero,Nat.zero_mul,Nat.sub_zero]at i89
        obtain⟨r90,hr90,hh⟩:=ae hh
        have q91l:=yY hr90
        have q91m:=UH hx87 q91l
        obtain⟨x92,hx92,hh⟩:=ae hh
        have ax92:=bG (eI .i64) hx92
        simp only[bU]at ax92
        have p93:=iz (eI .i64) (x':=r90.2) (fo:=0) (cs:=[.int .i64 r90.2]) hx92 rfl (Nat.le_of_ble_eq_true rfl)
        simp only[bU,Nat.add_zero]at p93
        have up93:=p93
        simp only[putCells,List.length_cons,List.length_nil,Nat.zero_add,Nat.reduceAdd]at up93
        cases hh
        try simp only[aX,seval,-Int.reduceToNat,hr1,i14,hr15,q17a,q17b,q17c,q17d,i18,hr19,q22a,q22b,q22c,q22d,q22e,ax60,q62,ax63,ax64,q66,ax64,q68,Zgx,q88a,q88b,q88c,q88e,i89,hr90,q91m,ax92,p93,up93]
        refine jB ?_
        refine⟨v9gx,v10gx,v12gx,true,?_,?_,?_,?_,?_,?_,?_,?_,?_⟩
        all_goals first|rfl|(simp only[aX,seval,-Int.reduceToNat,hr1,i14,hr15,q17a,q17b,q17c,q17d,i18,hr19,q22a,q22b,q22c,q22d,q22e,ax60,q62,ax63,ax64,q66,ax64,q68,Zgx,q88a,q88b,q88c,q88e,i89,hr90,q91m,ax92,p93,up93]<;>rfl)
      ·cases hh
       try simp only[aX,seval,-Int.reduceToNat,hr1,i14,hr15,q17a,q17b,q17c,q17d,i18,hr19,q22a,q22b,q22c,q22d,q22e,Zc]
       refine kH ?_
       refine⟨rfl,⟨v9c,v12c,?_,?_,?_,?_,?_⟩⟩
       all_goals first|rfl|(simp only[aX,seval,-Int.reduceToNat,hr1,i14,hr15,q17a,q17b,q17c,q17d,i18,hr19,q22a,q22b,q22c,q22d,q22e,Zc]<;>rfl)
     ·rintro x t H e hx
      rcases o58 with⟨l9cx,l12cx⟩
      dsimp only at hx hh
      obtain⟨rfl,⟨v9cx,v12cx,Zcx⟩⟩:=hx
      obtain⟨r94,hr94,hh⟩:=ae hh
      obtain⟨r95,hr95,hh⟩:=ae hh
      obtain⟨r96,hr96,hh⟩:=ae hh
      cases hh
      try simp only[aX,seval,-Int.reduceToNat,hr1,i14,hr15,q17a,q17b,q17c,q17d,i18,hr19,q22a,q22b,q22c,q22d,q22e,Zcx,hr94,hr95,hr96]
    ·clear hh
     have hh:=ho20
     try simp only[aX,seval,-Int.reduceToNat,hr1,Zax,i14,hr15,q17a,q17b,q17c,q17d,i18,hr19]
     refine sp aj hh (fun _ hh =>?_) (fun _ hh =>?_)
     ·obtain⟨x98,hx98,hh⟩:=ae hh
      obtain⟨q99a,q99b,q99c,q99d⟩:=fi (eI .i64) hx98
      simp only[bU]at q99b
      cases hh
      try simp only[aX,seval,-Int.reduceToNat,hr1,Zax,i14,hr15,q17a,q17b,q17c,q17d,i18,hr19,q99a,q99b,q99c,q99d]
      rw[ak]
      refine⟨_,rfl,?_⟩
      refine⟨e+1+1,e,?_,?_,?_,?_,?_⟩
      all_goals first|rfl|(simp only[aX,seval,-Int.reduceToNat,hr1,Zax,i14,hr15,q17a,q17b,q17c,q17d,i18,hr19,q99a,q99b,q99c,q99d]<;>rfl)
     ·cases hh
      try simp only[aX,seval,-Int.reduceToNat,hr1,Zax,i14,hr15,q17a,q17b,q17c,q17d,i18,hr19]
      rw[ak]
      refine⟨_,rfl,?_⟩
      refine⟨e,e,?_,?_,?_,?_,?_⟩
      all_goals first|rfl|(simp only[aX,seval,-Int.reduceToNat,hr1,Zax,i14,hr15,q17a,q17b,q17c,q17d,i18,hr19]<;>rfl)
theorem C0:bH Tryz.prog 125 uz:=bH.of (mode := .clean) tok MD mixed Tryz.func125 (by kernel_rfl) ⟨by kernel_rfl,by kernel_rfl⟩ (fun _=>Nat.le_of_ble_eq_true (by kernel_rfl)) (fun x r h=>QJ x.1 x.2 r h)
noncomputable def gi:=eL (ec (aI .i64) (dJ (iE (eI .i64)))) (fun x:Int×(List Int)=>cB x.1 x.2) (fun r:an =>.clean (.agg [.int .i64 r.ag,.sl false false r.aa.length (ab (eI .i64) r.aa)]))
theorem dV (p0:Int) (p1:(List Int)):gi none [.int .i64 p0,.sl false false p1.length (ab (eI .i64) p1)]=(cB p0 p1).map fun r:an=>(.clean (.agg [.int .i64 r.ag,.sl false false r.aa.length (ab (eI .i64) r.aa)]),none):=aK _ _ _ (p0,p1)
noncomputable def nB:Env:=(Am.ext aS 163 false j9)
theorem D3:bN Tryz.prog nB:=(bN.none.add mD false)
theorem si:type_of% (ai @w<|ai @fp<|@nB.eq_1):=⟨@w,@fp,@nB.eq_1⟩
theorem Hw (p0:Int) (p1:(List Int)) (r:an) (hh:cB p0 p1=some r):aQ .clean tab nB FU Tryz.f126 none [.int .i64 p0,.sl false false p1.length (ab (eI .i64) p1)]=some (.clean (.agg [.int .i64 r.ag,.sl false false r.aa.length (ab (eI .i64) r.aa)]),none):=by
 refine av rfl Tryz.ntmps126 Tryz.results126 ?_
 unfold cB at hh
 obtain⟨r1,hr1,hh⟩:=ae hh
 try simp only[si,seval,-Int.reduceToNat,hr1]
 refine sp aj hh (fun _ hh =>?_) (fun _ hh =>?_)
 ·cases hh
  try simp only[si,seval,-Int.reduceToNat,hr1]
 ·cases hh
  try simp only[si,seval,-Int.reduceToNat,hr1]
theorem iP:bH Tryz.prog 126 gi:=bH.of (mode := .clean) tok D3 mixed Tryz.func126 (by kernel_rfl) ⟨by kernel_rfl,by kernel_rfl⟩ (fun _=>Nat.le_of_ble_eq_true (by kernel_rfl)) (fun x r h=>Hw x.1 x.2 r h)
noncomputable def ux:=eL (ec (cJ fG) (dJ (cJ fG))) (fun x:an×an=>nt x.1 x.2) (fun r:an×Int =>.clean (.tup [.agg [.int .i64 r.1.ag,.sl false false r.1.aa.length (ab (eI .i64) r.1.aa)],.int .i64 r.2]))
theorem vd (p0_0:Int) (p0_1:(List Int)) (p1_0:Int) (p1_1:(List Int)):ux none [.agg [.int .i64 p0_0,.sl false false p0_1.length (ab (eI .i64) p0_1)],.agg [.int .i64 p1_0,.sl false false p1_1.length (ab (eI .i64) p1_1)]]=(nt (an.mk p0_0 p0_1) (an.mk p1_0 p1_1)).map fun r:an×Int=>(.clean (.tup [.agg [.int .i64 r.1.ag,.sl false false r.1.aa.length (ab (eI .i64) r.1.aa)],.int .i64 r.2]),none):=aK _ _ _ ((an.mk p0_0 p0_1),(an.mk p1_0 p1_1))
noncomputable def uQ:Env:=(Am.keep 6 (Am.ext (Am.ext (Am.ext (Am.ext (Am.ext aS 65 false dI) 97 false fa) 124 false jH) 125 false uz) 126 false gi))
theorem My:bN Tryz.prog uQ:=(bN.keep (((((bN.none.add eT false).add fE false).add oN false).add C0 false).add iP false) 6)
theorem eh:type_of% (ai @w<|ai @ck<|ai @cz<|ai @eY<|ai @ve<|ai @dV<|@uQ.eq_1):=⟨@w,@ck,@cz,@eY,@ve,@dV,@uQ.eq_1⟩
theorem QE (p0:an) (p1:an) (r:an×Int) (hh:nt p0 p1=some r):aQ .clean tab uQ FU Tryz.f98 none [.agg [.int .i64 p0.ag,.sl false false p0.aa.length (ab (eI .i64) p0.aa)],.agg [.int .i64 p1.ag,.sl false false p1.aa.length (ab (eI .i64) p1.aa)]]=some (.clean (.tup [.agg [.int .i64 r.1.ag,.sl false false r.1.aa.length (ab (eI .i64) r.1.aa)],.int .i64 r.2]),none):=by
 refine av rfl Tryz.ntmps98 Tryz.results98 ?_
 unfold nt at hh
 obtain⟨r1,hr1,hh⟩:=ae hh
 try simp only[eh,seval,-Int.reduceToNat,hr1]
 obtain⟨o2,ho2,hh⟩:=ae hh
 refine bD 0 (fun s t H e=>match s with|s17j1=>∃v2j1:Nat,∃v3j1:Nat,∃v4j1:Nat,t 2=.ptr 2 v2j1 0∧t 3=.ptr 3 v3j1 0∧t 4=.ptr 4 v4j1 0∧t 17=.bool s17j1∧H 2=some ⟨v2j1,49,[.int .i64 p0.ag,.sl false false p0.aa.length (ab (eI .i64) p0.aa)],false,false,false⟩∧H 3=some ⟨v3j1,49,[.int .i64 p1.ag,.sl false false p1.aa.length (ab (eI .i64) p1.aa)],false,false,false⟩∧H 4=some ⟨v4j1,49,[.int .i64 0,.sl true true 0 []],false,false,false⟩) (fun s=>s=o2) ?_ ?_
 ·rintro s17j1 t H e ⟨v2j1,v3j1,v4j1,Zj1⟩ rfl
  try dsimp only at hh
  try simp only[eh,seval,-Int.reduceToNat,hr1,Zj1]
  refine sp aj hh (fun _ hh =>?_) (fun _ hh =>?_)
  ·have i4:=eY false 0 ([])
   simp only[aP,bU,List.length_cons,List.length_nil,Nat.zero_add,Nat.reduceAdd,List.length_set]at i4
   obtain⟨r5,hr5,hh⟩:=ae hh
   cases hh
   try simp only[eh,seval,-Int.reduceToNat,hr1,Zj1,i4,hr5]
  ·obtain⟨r6,hr6,hh⟩:=ae hh
   try simp only[eh,seval,-Int.reduceToNat,hr1,Zj1,hr6]
   refine bI (by kernel_rfl) ?_
   try simp only[eh,seval,-Int.reduceToNat,hr1,Zj1,hr6]
   obtain⟨o9,ho9,hh⟩:=ae hh
   refine aA (fun s t H e=>match s with|(s6b,s7b)=>∃v4b:Nat,t 4=.ptr 4 v4b 0∧t 6=.sl false false s6b.length (ab (eI .i64) s6b)∧t 7=.sl false false s7b.length (ab (eI .i64) s7b)∧H 4=some ⟨v4b,49,[.int .i64 0,.sl true true 0 []],false,false,false⟩) (fun o x t H e=>match o with|s6bx=>x=.exit 0∧∃v4bx:Nat,t 4=.ptr 4 v4bx 0∧t 6=.sl false false s6bx.length (ab (eI .i64) s6bx)∧H 4=some ⟨v4bx,49,[.int .i64 0,.sl true true 0 []],false,false,false⟩) ho9 ?_ ?_ ?_
   ·refine⟨v4j1,?_,?_,?_,?_⟩
    all_goals first|rfl|(simp only[eh,seval,-Int.reduceToNat,hr1,Zj1,hr6]<;>rfl)
   ·rintro⟨s6b,s7b⟩ t H e ⟨v4b,Zb⟩ c hh
    simp only[ov]at hh
    try simp only[eh,seval,-Int.reduceToNat,hr1,hr6,Zb]
    refine sp aj hh (fun _ hh =>?_) (fun _ hh =>?_)
    ·obtain⟨r11,hr11,hh⟩:=ae hh
     cases hh
     try simp only[eh,seval,-Int.reduceToNat,hr1,hr6,Zb,hr11]
     refine jB ?_
     refine⟨v4b,?_,?_,?_,?_⟩
     all_goals first|rfl|(simp only[eh,seval,-Int.reduceToNat,hr1,hr6,Zb,hr11]<;>rfl)
    ·cases hh
     try simp only[eh,seval,-Int.reduceToNat,hr1,hr6,Zb]
     refine kH ?_
     refine⟨rfl,⟨v4b,?_,?_,?_⟩⟩
     all_goals first|rfl|(simp only[eh,seval,-Int.reduceToNat,hr1,hr6,Zb]<;>rfl)
   ·rintro x t H e hx
    obtain⟨s6bx,rfl⟩:∃z,z=o9:=⟨_,rfl⟩
    dsimp only at hx hh
    obtain⟨rfl,⟨v4bx,Zbx⟩⟩:=hx
    obtain⟨r12,hr12,hh⟩:=ae hh
    obtain⟨r13,hr13,hh⟩:=ae hh
    obtain⟨r14,hr14,hh⟩:=ae hh
    cases hh
    try simp only[eh,seval,-Int.reduceToNat,hr1,hr6,Zbx,hr12,hr13,hr14]
 ·clear hh
  have hh:=ho2
  try simp only[eh,seval,-Int.reduceToNat,hr1]
  refine sp aU hh (fun _ hh =>?_) (fun _ hh =>?_)
  ·cases hh
   try simp only[eh,seval,-Int.reduceToNat,hr1]
   rw[ak]
   refine⟨_,rfl,?_⟩
   refine⟨0,0,0,?_,?_,?_,?_,?_,?_,?_⟩
   all_goals first|rfl|(simp only[eh,seval,-Int.reduceToNat,hr1]<;>rfl)
  ·obtain⟨r16,hr16,hh⟩:=ae hh
   cases hh
   try simp only[eh,seval,-Int.reduceToNat,hr1,hr16]
   rw[ak]
   refine⟨_,rfl,?_⟩
   refine⟨0,0,0,?_,?_,?_,?_,?_,?_,?_⟩
   all_goals first|rfl|(simp only[eh,seval,-Int.reduceToNat,hr1,hr16]<;>rfl)
theorem CY:bH Tryz.prog 98 ux:=bH.of (mode := .clean) tok My mixed Tryz.func98 (by kernel_rfl) ⟨by kernel_rfl,by kernel_rfl⟩ (fun _=>Nat.le_of_ble_eq_true (by kernel_rfl)) (fun x r h=>QE x.1 x.2 r h)
noncomputable def yu:=eL (dJ (cJ fG)) (fun x:an=>qW x) (fun r:Int×Bool =>.clean (.tup [.int .i64 r.1,.bool r.2]))
theorem Gl (p0_0:Int) (p0_1:(List Int)):yu none [.agg [.int .i64 p0_0,.sl false false p0_1.length (ab (eI .i64) p0_1)]]=(qW (an.mk p0_0 p0_1)).map fun r:Int×Bool=>(.clean (.tup [.int .i64 r.1,.bool r.2]),none):=aK _ _ _ ((an.mk p0_0 p0_1))
noncomputable def uR:Env:=(Am.ext aS 97 false fa)
theorem Mz:bN Tryz.prog uR:=(bN.none.add fE false)
theorem bo:type_of% (ai @w<|ai @cz<|@uR.eq_1):=⟨@w,@cz,@uR.eq_1⟩
theorem QF (p0:an) (r:Int×Bool) (hh:qW p0=some r):aQ .clean tab uR FU Tryz.f127 none [.agg [.int .i64 p0.ag,.sl false false p0.aa.length (ab (eI .i64) p0.aa)]]=some (.clean (.tup [.int .i64 r.1,.bool r.2]),none):=by
 refine av rfl Tryz.ntmps127 Tryz.results127 ?_
 unfold qW at hh
 obtain⟨r1,hr1,hh⟩:=ae hh
 try simp only[bo,seval,-Int.reduceToNat,hr1]
 obtain⟨o2,ho2,hh⟩:=ae hh
 refine bD 0 (fun s t H e=>match s with|s15j1=>∃v1j1:Nat,t 1=.ptr 1 v1j1 0∧t 15=.bool s15j1∧H 1=some ⟨v1j1,49,[.int .i64 p0.ag,.sl false false p0.aa.length (ab (eI .i64) p0.aa)],false,false,false⟩) (fun s=>s=o2) ?_ ?_
 ·rintro s15j1 t H e ⟨v1j1,Zj1⟩ rfl
  try dsimp only at hh
  try simp only[bo,seval,-Int.reduceToNat,hr1,Zj1]
  refine sp aj hh (fun _ hh =>?_) (fun _ hh =>?_)
  ·cases hh
   try simp only[bo,seval,-Int.reduceToNat,hr1,Zj1]
  ·try simp only[bo,seval,-Int.reduceToNat,hr1,Zj1]
   obtain⟨o11,ho11,hh⟩:=ae hh
   refine aA (fun s t H e=>match s with|(s4b,s19b)=>∃v1b:Nat,t 1=.ptr 1 v1b 0∧t 4=.int .u64 s4b∧t 17=.sl false false p0.aa.length (ab (eI .i64) p0.aa)∧t 18=.int .i64 (p0.aa.length:Int)∧t 19=.int .i64 s19b∧H 1=some ⟨v1b,49,[.int .i64 p0.ag,.sl false false p0.aa.length (ab (eI .i64) p0.aa)],false,false,false⟩) (fun o x t H e=>match o with|(.inl s4bx)=>x=.exit 0∧∃v1bx:Nat,t 1=.ptr 1 v1bx 0∧t 4=.int .u64 s4bx∧H 1=some ⟨v1bx,49,[.int .i64 p0.ag,.sl false false p0.aa.length (ab (eI .i64) p0.aa)],false,false,false⟩|(.inr r)=>x=.ret∧gW .clean tab none [.tmp 2,.tmp 3] ⟨t,H,e⟩=some (.clean (.tup [.int .i64 r.1,.bool r.2]),none)) ho11 ?_ ?_ ?_
   ·refine⟨v1j1,?_,?_,?_,?_,?_,?_⟩
    all_goals first|rfl|(simp only[bo,seval,-Int.reduceToNat,hr1,Zj1]<;>rfl)
   ·rintro⟨s4b,s19b⟩ t H e ⟨v1b,Zb⟩ c hh
    simp only[qX]at hh
    try simp only[bo,seval,-Int.reduceToNat,hr1,Zb]
    refine sp aj hh (fun _ hh =>?_) (fun _ hh =>?_)
    ·obtain⟨x13,hx13,hh⟩:=ae hh
     have ax13:=bG (eI .i64) hx13
     simp only[bU]at ax13
     try simp only[bo,seval,-Int.reduceToNat,hr1,Zb,ax13]
     obtain⟨o14,ho14,hh⟩:=ae hh
     refine bD 0 (fun s t H e=>match s with|s29j4=>∃v1j4:Nat,t 1=.ptr 1 v1j4 0∧t 4=.int .u64 s4b∧t 5=.int .i64 s19b∧t 6=.int .i64 x13∧t 17=.sl false false p0.aa.length (ab (eI .i64) p0.aa)∧t 18=.int .i64 (p0.aa.length:Int)∧t 19=.int .i64 s19b∧t 29=.bool s29j4∧H 1=some ⟨v1j4,49,[.int .i64 p0.ag,.sl false false p0.aa.length (ab (eI .i64) p0.aa)],false,false,false⟩) (fun s=>s=o14) ?_ ?_
     ·rintro s29j4 t H e ⟨v1j4,Zj4⟩ rfl
      try dsimp only at hh
      try simp only[bo,seval,-Int.reduceToNat,hr1,ax13,Zj4]
      refine sp aj hh (fun _ hh =>?_) (fun _ hh =>?_)
      ·cases hh
       try simp only[bo,seval,-Int.reduceToNat,hr1,ax13,Zj4]
       refine yZ ⟨rfl,?_⟩
       try simp only[bo,seval,-Int.reduceToNat,hr1,ax13,Zj4]
      ·obtain⟨x16,hx16,hh⟩:=ae hh
       have q17:=Bb hx16
       cases hh
       try simp only[bo,seval,-Int.reduceToNat,hr1,ax13,Zj4,q17]
       refine jB ?_
       refine⟨v1j4,?_,?_,?_,?_,?_,?_⟩
       all_goals first|rfl|(simp only[bo,seval,-Int.reduceToNat,hr1,ax13,Zj4,q17]<;>rfl)
     ·clear hh
      have hh:=ho14
      try simp only[bo,seval,-Int.reduceToNat,hr1,Zb,ax13]
      refine sp bJ hh (fun _ hh =>?_) (fun _ hh =>?_)
      ·cases hh
       try simp only[bo,seval,-Int.reduceToNat,hr1,Zb,ax13]
       rw[ak]
       refine⟨_,rfl,?_⟩
       refine⟨v1b,?_,?_,?_,?_,?_,?_,?_,?_,?_⟩
       all_goals first|rfl|(simp only[bo,seval,-Int.reduceToNat,hr1,Zb,ax13]<;>rfl)
      ·cases hh
       try simp only[bo,seval,-Int.reduceToNat,hr1,Zb,ax13]
       rw[ak]
       refine⟨_,rfl,?_⟩
       refine⟨v1b,?_,?_,?_,?_,?_,?_,?_,?_,?_⟩
       all_goals first|rfl|(simp only[bo,seval,-Int.reduceToNat,hr1,Zb,ax13]<;>rfl)
    ·cases hh
     try simp only[bo,seval,-Int.reduceToNat,hr1,Zb]
     refine kH ?_
     refine⟨rfl,⟨v1b,?_,?_,?_⟩⟩
     all_goals first|rfl|(simp only[bo,seval,-Int.reduceToNat,hr1,Zb]<;>rfl)
   ·rintro x t H e hx
    rcases o11 with s4bx|rb
    ·dsimp only at hx hh
     obtain⟨rfl,⟨v1bx,Zbx⟩⟩:=hx
     try simp only[bo,seval,-Int.reduceToNat,hr1,Zbx]
     obtain⟨o19,ho19,hh⟩:=ae hh
     refine bD 0 (fun s t H e=>match s with|s38j5=>∃v1j5:Nat,t 1=.ptr 1 v1j5 0∧t 4=.int .u64 s4bx∧t 38=.bool s38j5∧H 1=some ⟨v1j5,49,[.int .i64 p0.ag,.sl false false p0.aa.length (ab (eI .i64) p0.aa)],false,false,false⟩) (fun s=>s=o19) ?_ ?_
     ·rintro s38j5 t H e ⟨v1j5,Zj5⟩ rfl
      try dsimp only at hh
      try simp only[bo,seval,-Int.reduceToNat,hr1,Zj5]
      refine sp aj hh (fun _ hh =>?_) (fun _ hh =>?_)
      ·cases hh
       try simp only[bo,seval,-Int.reduceToNat,hr1,Zj5]
      ·try simp only[bo,seval,-Int.reduceToNat,hr1,Zj5]
       refine sp bJ hh (fun _ hh =>?_) (fun _ hh =>?_)
       ·try simp only[bo,seval,-Int.reduceToNat,hr1,Zj5]
        refine sp aj hh (fun _ hh =>?_) (fun _ hh =>?_)
        ·cases hh
         try simp only[bo,seval,-Int.reduceToNat,hr1,Zj5]
        ·cases hh
         try simp only[bo,seval,-Int.reduceToNat,hr1,Zj5]
       ·cases hh
        try simp only[bo,seval,-Int.reduceToNat,hr1,Zj5]
     ·clear hh
      have hh:=ho19
      try simp only[bo,seval,-Int.reduceToNat,hr1,Zbx]
      refine sp bJ hh (fun _ hh =>?_) (fun _ hh =>?_)
      ·cases hh
       try simp only[bo,seval,-Int.reduceToNat,hr1,Zbx]
       rw[ak]
       refine⟨_,rfl,?_⟩
       refine⟨v1bx,?_,?_,?_,?_⟩
       all_goals first|rfl|(simp only[bo,seval,-Int.reduceToNat,hr1,Zbx]<;>rfl)
      ·cases hh
       try simp only[bo,seval,-Int.reduceToNat,hr1,Zbx]
       rw[ak]
       refine⟨_,rfl,?_⟩
       refine⟨v1bx,?_,?_,?_,?_⟩
       all_goals first|rfl|(simp only[bo,seval,-Int.reduceToNat,hr1,Zbx]<;>rfl)
    ·dsimp only at hx hh
     obtain⟨rfl,hE⟩:=hx
     cases hh
     try simp only[bq,bj,bF,dr,dq]
     exact hE
 ·clear hh
  have hh:=ho2
  try simp only[bo,seval,-Int.reduceToNat,hr1]
  refine sp aU hh (fun _ hh =>?_) (fun _ hh =>?_)
  ·cases hh
   try simp only[bo,seval,-Int.reduceToNat,hr1]
   rw[ak]
   refine⟨_,rfl,?_⟩
   refine⟨0,?_,?_,?_⟩
   all_goals first|rfl|(simp only[bo,seval,-Int.reduceToNat,hr1]<;>rfl)
  ·cases hh
   try simp only[bo,seval,-Int.reduceToNat,hr1]
   rw[ak]
   refine⟨_,rfl,?_⟩
   refine⟨0,?_,?_,?_⟩
   all_goals first|rfl|(simp only[bo,seval,-Int.reduceToNat,hr1]<;>rfl)
theorem Nh:bH Tryz.prog 127 yu:=bH.of (mode := .clean) tok Mz mixed Tryz.func127 (by kernel_rfl) ⟨by kernel_rfl,by kernel_rfl⟩ (fun _=>Nat.le_of_ble_eq_true (by kernel_rfl)) (fun x r h=>QF x r h)
noncomputable def wD:=eL (dJ (cJ fG)) (fun x:an=>oK x) (fun r:Bool =>.clean (.bool r))
theorem Df (p0_0:Int) (p0_1:(List Int)):wD none [.agg [.int .i64 p0_0,.sl false false p0_1.length (ab (eI .i64) p0_1)]]=(oK (an.mk p0_0 p0_1)).map fun r:Bool=>(.clean (.bool r),none):=aK _ _ _ ((an.mk p0_0 p0_1))
noncomputable def rv:Env:=(Am.ext aS 127 false yu)
theorem JO:bN Tryz.prog rv:=(bN.none.add Nh false)
theorem xe:type_of% (ai @w<|ai @Gl<|@rv.eq_1):=⟨@w,@Gl,@rv.eq_1⟩
theorem M0 (p0:an) (r:Bool) (hh:oK p0=some r):aQ .clean tab rv FU Tryz.f99 none [.agg [.int .i64 p0.ag,.sl false false p0.aa.length (ab (eI .i64) p0.aa)]]=some (.clean (.bool r),none):=by
 refine av rfl Tryz.ntmps99 Tryz.results99 ?_
 unfold oK at hh
 obtain⟨r1,hr1,hh⟩:=ae hh
 try simp only[xe,seval,-Int.reduceToNat,hr1]
 refine sp bJ hh (fun _ hh =>?_) (fun _ hh =>?_)
 ·cases hh
  try simp only[xe,seval,-Int.reduceToNat,hr1]
 ·cases hh
  try simp only[xe,seval,-Int.reduceToNat,hr1]
theorem K5:bH Tryz.prog 99 wD:=bH.of (mode := .clean) tok JO mixed Tryz.func99 (by kernel_rfl) ⟨by kernel_rfl,by kernel_rfl⟩ (fun _=>Nat.le_of_ble_eq_true (by kernel_rfl)) (fun x r h=>M0 x r h)
noncomputable def jq:=eL (dJ (cJ kd)) (fun x:aF=>eA x) (fun r:Bool =>.clean (.bool r))
theorem gw (p0_0:Int) (p0_1:(List Int)) (p0_2:Int) (p0_3:(List Int)):jq none [.agg [.int .i64 p0_0,.sl false false p0_1.length (ab (eI .i64) p0_1),.int .i64 p0_2,.sl false false p0_3.length (ab (eI .i64) p0_3)]]=(eA (aF.mk (an.mk p0_0 p0_1) (an.mk p0_2 p0_3))).map fun r:Bool=>(.clean (.bool r),none):=aK _ _ _ ((aF.mk (an.mk p0_0 p0_1) (an.mk p0_2 p0_3)))
noncomputable def nC:Env:=(Am.ext (Am.ext (Am.ext aS 97 false fa) 98 false ux) 99 false wD)
theorem D4:bN Tryz.prog nC:=(((bN.none.add fE false).add CY false).add K5 false)
theorem df:type_of% (ai @w<|ai @cz<|ai @vd<|ai @Df<|@nC.eq_1):=⟨@w,@cz,@vd,@Df,@nC.eq_1⟩
theorem Hz (p0:aF) (r:Bool) (hh:eA p0=some r):aQ .clean tab nC FU Tryz.f57 none [.agg [.int .i64 p0.bx.ag,.sl false false p0.bx.aa.length (ab (eI .i64) p0.bx.aa),.int .i64 p0.bt.ag,.sl false false p0.bt.aa.length (ab (eI .i64) p0.bt.aa)]]=some (.clean (.bool r),none):=by
 refine av rfl Tryz.ntmps57 Tryz.results57 ?_
 unfold eA at hh
 obtain⟨r1,hr1,hh⟩:=ae hh
 try simp only[df,seval,-Int.reduceToNat,hr1]
 obtain⟨o2,ho2,hh⟩:=ae hh
 refine bD 0 (fun s t H e=>match s with|s20j1=>∃v1j1:Nat,t 1=.ptr 1 v1j1 0∧t 20=.bool s20j1∧H 1=some ⟨v1j1,51,[.int .i64 p0.bx.ag,.sl false false p0.bx.aa.length (ab (eI .i64) p0.bx.aa),.int .i64 p0.bt.ag,.sl false false p0.bt.aa.length (ab (eI .i64) p0.bt.aa)],false,false,false⟩) (fun s=>s=o2) ?_ ?_
 ·rintro s20j1 t H e ⟨v1j1,Zj1⟩ rfl
  try dsimp only at hh
  try simp only[df,seval,-Int.reduceToNat,hr1,Zj1]
  refine sp aj hh (fun _ hh =>?_) (fun _ hh =>?_)
  ·cases hh
   try simp only[df,seval,-Int.reduceToNat,hr1,Zj1]
  ·obtain⟨r4,hr4,hh⟩:=ae hh
   try simp only[df,seval,-Int.reduceToNat,hr1,Zj1,hr4]
   refine sp bJ hh (fun _ hh =>?_) (fun _ hh =>?_)
   ·obtain⟨r6,hr6,hh⟩:=ae hh
    cases hh
    try simp only[df,seval,-Int.reduceToNat,hr1,Zj1,hr4,hr6]
   ·cases hh
    try simp only[df,seval,-Int.reduceToNat,hr1,Zj1,hr4]
 ·clear hh
  have hh:=ho2
  try simp only[df,seval,-Int.reduceToNat,hr1]
  refine sp aU hh (fun _ hh =>?_) (fun _ hh =>?_)
  ·cases hh
   try simp only[df,seval,-Int.reduceToNat,hr1]
   rw[ak]
   refine⟨_,rfl,?_⟩
   refine⟨0,?_,?_,?_⟩
   all_goals first|rfl|(simp only[df,seval,-Int.reduceToNat,hr1]<;>rfl)
  ·obtain⟨r8,hr8,hh⟩:=ae hh
   try simp only[df,seval,-Int.reduceToNat,hr1,hr8]
   refine sp aU hh (fun _ hh =>?_) (fun _ hh =>?_)
   ·cases hh
    try simp only[df,seval,-Int.reduceToNat,hr1,hr8]
    rw[ak]
    refine⟨_,rfl,?_⟩
    refine⟨0,?_,?_,?_⟩
    all_goals first|rfl|(simp only[df,seval,-Int.reduceToNat,hr1,hr8]<;>rfl)
   ·cases hh
    try simp only[df,seval,-Int.reduceToNat,hr1,hr8]
    rw[ak]
    refine⟨_,rfl,?_⟩
    refine⟨0,?_,?_,?_⟩
    all_goals first|rfl|(simp only[df,seval,-Int.reduceToNat,hr1,hr8]<;>rfl)
theorem mg:bH Tryz.prog 57 jq:=bH.of (mode := .clean) tok D4 mixed Tryz.func57 (by kernel_rfl) ⟨by kernel_rfl,by kernel_rfl⟩ (fun _=>Nat.le_of_ble_eq_true (by kernel_rfl)) (fun x r h=>Hz x r h)
noncomputable def yv:=eL (ec (cJ fG) (dJ (cJ fG))) (fun x:an×an=>qY x.1 x.2) (fun r:an×Int =>.clean (.tup [.agg [.int .i64 r.1.ag,.sl false false r.1.aa.length (ab (eI .i64) r.1.aa)],.int .i64 r.2]))
theorem Gm (p0_0:Int) (p0_1:(List Int)) (p1_0:Int) (p1_1:(List Int)):yv none [.agg [.int .i64 p0_0,.sl false false p0_1.length (ab (eI .i64) p0_1)],.agg [.int .i64 p1_0,.sl false false p1_1.length (ab (eI .i64) p1_1)]]=(qY (an.mk p0_0 p0_1) (an.mk p1_0 p1_1)).map fun r:an×Int=>(.clean (.tup [.agg [.int .i64 r.1.ag,.sl false false r.1.aa.length (ab (eI .i64) r.1.aa)],.int .i64 r.2]),none):=aK _ _ _ ((an.mk p0_0 p0_1),(an.mk p1_0 p1_1))
noncomputable def uS:Env:=(Am.ext (Am.ext (Am.ext (Am.ext aS 97 false fa) 124 false jH) 126 false gi) 164 false uA)
theorem MA:bN Tryz.prog uS:=((((bN.none.add fE false).add oN false).add iP false).add C1 false)
theorem iU:type_of% (ai @w<|ai @cz<|ai @eY<|ai @dV<|ai @od<|@uS.eq_1):=⟨@w,@cz,@eY,@dV,@od,@uS.eq_1⟩
theorem QG (p0:an) (p1:an) (r:an×Int) (hh:qY p0 p1=some r):aQ .clean tab uS FU Tryz.f130 none [.agg [.int .i64 p0.ag,.sl false false p0.aa.length (ab (eI .i64) p0.aa)],.agg [.int .i64 p1.ag,.sl false false p1.aa.length (ab (eI .i64) p1.aa)]]=some (.clean (.tup [.agg [.int .i64 r.1.ag,.sl false false r.1.aa.length (ab (eI .i64) r.1.aa)],.int .i64 r.2]),none):=by
 refine av rfl Tryz.ntmps130 Tryz.results130 ?_
 unfold qY at hh
 obtain⟨r1,hr1,hh⟩:=ae hh
 try simp only[iU,seval,-Int.reduceToNat,hr1]
 obtain⟨o2,ho2,hh⟩:=ae hh
 refine bD 0 (fun s t H e=>match s with|s13j1=>∃v2j1:Nat,∃v3j1:Nat,∃v4j1:Nat,t 2=.ptr 2 v2j1 0∧t 3=.ptr 3 v3j1 0∧t 4=.ptr 4 v4j1 0∧t 13=.bool s13j1∧H 2=some ⟨v2j1,49,[.int .i64 p0.ag,.sl false false p0.aa.length (ab (eI .i64) p0.aa)],false,false,false⟩∧H 3=some ⟨v3j1,49,[.int .i64 p1.ag,.sl false false p1.aa.length (ab (eI .i64) p1.aa)],false,false,false⟩∧H 4=some ⟨v4j1,49,[.int .i64 0,.sl true true 0 []],false,false,false⟩) (fun s=>s=o2) ?_ ?_
 ·rintro s13j1 t H e ⟨v2j1,v3j1,v4j1,Zj1⟩ rfl
  try dsimp only at hh
  try simp only[iU,seval,-Int.reduceToNat,hr1,Zj1]
  refine sp aj hh (fun _ hh =>?_) (fun _ hh =>?_)
  ·have i4:=eY false 0 ([])
   simp only[aP,bU,List.length_cons,List.length_nil,Nat.zero_add,Nat.reduceAdd,List.length_set]at i4
   obtain⟨r5,hr5,hh⟩:=ae hh
   cases hh
   try simp only[iU,seval,-Int.reduceToNat,hr1,Zj1,i4,hr5]
  ·obtain⟨r6,hr6,hh⟩:=ae hh
   obtain⟨r7,hr7,hh⟩:=ae hh
   obtain⟨r8,hr8,hh⟩:=ae hh
   try simp only[iU,seval,-Int.reduceToNat,hr1,Zj1,hr6,hr7,hr8]
   refine bI (by kernel_rfl) ?_
   cases hh
   try simp only[iU,seval,-Int.reduceToNat,hr1,Zj1,hr6,hr7,hr8]
 ·clear hh
  have hh:=ho2
  try simp only[iU,seval,-Int.reduceToNat,hr1]
  refine sp aU hh (fun _ hh =>?_) (fun _ hh =>?_)
  ·cases hh
   try simp only[iU,seval,-Int.reduceToNat,hr1]
   rw[ak]
   refine⟨_,rfl,?_⟩
   refine⟨0,0,0,?_,?_,?_,?_,?_,?_,?_⟩
   all_goals first|rfl|(simp only[iU,seval,-Int.reduceToNat,hr1]<;>rfl)
  ·obtain⟨r10,hr10,hh⟩:=ae hh
   cases hh
   try simp only[iU,seval,-Int.reduceToNat,hr1,hr10]
   rw[ak]
   refine⟨_,rfl,?_⟩
   refine⟨0,0,0,?_,?_,?_,?_,?_,?_,?_⟩
   all_goals first|rfl|(simp only[iU,seval,-Int.reduceToNat,hr1,hr10]<;>rfl)
theorem Ni:bH Tryz.prog 130 yv:=bH.of (mode := .clean) tok MA mixed Tryz.func130 (by kernel_rfl) ⟨by kernel_rfl,by kernel_rfl⟩ (fun _=>Nat.le_of_ble_eq_true (by kernel_rfl)) (fun x r h=>QG x.1 x.2 r h)
noncomputable def nn:=eL (ec (cJ fG) (dJ (cJ fG))) (fun x:an×an=>dH x.1 x.2) (fun r:an =>.clean (.agg [.int .i64 r.ag,.sl false false r.aa.length (ab (eI .i64) r.aa)]))
theorem nT (p0_0:Int) (p0_1:(List Int)) (p1_0:Int) (p1_1:(List Int)):nn none [.agg [.int .i64 p0_0,.sl false false p0_1.length (ab (eI .i64) p0_1)],.agg [.int .i64 p1_0,.sl false false p1_1.length (ab (eI .i64) p1_1)]]=(dH (an.mk p0_0 p0_1) (an.mk p1_0 p1_1)).map fun r:an=>(.clean (.agg [.int .i64 r.ag,.sl false false r.aa.length (ab (eI .i64) r.aa)]),none):=aK _ _ _ ((an.mk p0_0 p0_1),(an.mk p1_0 p1_1))
noncomputable def nD:Env:=(Am.ext aS 130 false yv)
theorem D5:bN Tryz.prog nD:=(bN.none.add Ni false)
theorem Ip:type_of% (ai @w<|ai @Gm<|@nD.eq_1):=⟨@w,@Gm,@nD.eq_1⟩
theorem HA (p0:an) (p1:an) (r:an) (hh:dH p0 p1=some r):aQ .clean tab nD FU Tryz.f101 none [.agg [.int .i64 p0.ag,.sl false false p0.aa.length (ab (eI .i64) p0.aa)],.agg [.int .i64 p1.ag,.sl false false p1.aa.length (ab (eI .i64) p1.aa)]]=some (.clean (.agg [.int .i64 r.ag,.sl false false r.aa.length (ab (eI .i64) r.aa)]),none):=by
 refine av rfl Tryz.ntmps101 Tryz.results101 ?_
 unfold dH at hh
 obtain⟨r1,hr1,hh⟩:=ae hh
 cases hh
 try simp only[Ip,seval,-Int.reduceToNat,hr1]
theorem vY:bH Tryz.prog 101 nn:=bH.of (mode := .clean) tok D5 mixed Tryz.func101 (by kernel_rfl) ⟨by kernel_rfl,by kernel_rfl⟩ (fun _=>Nat.le_of_ble_eq_true (by kernel_rfl)) (fun x r h=>HA x.1 x.2 r h)
noncomputable def pU:=eL (ec (cJ fG) (dJ (cJ fG))) (fun x:an×an=>jg x.1 x.2) (fun r:Int =>.clean (.int .i64 r))
theorem wb (p0_0:Int) (p0_1:(List Int)) (p1_0:Int) (p1_1:(List Int)):pU none [.agg [.int .i64 p0_0,.sl false false p0_1.length (ab (eI .i64) p0_1)],.agg [.int .i64 p1_0,.sl false false p1_1.length (ab (eI .i64) p1_1)]]=(jg (an.mk p0_0 p0_1) (an.mk p1_0 p1_1)).map fun r:Int=>(.clean (.int .i64 r),none):=aK _ _ _ ((an.mk p0_0 p0_1),(an.mk p1_0 p1_1))
noncomputable def l8:Env:=(Am.ext (Am.ext (Am.ext aS 97 false fa) 128 false lW) 129 false jI)
theorem Cs:bN Tryz.prog l8:=(((bN.none.add fE false).add ub false).add oO false)
theorem dz:type_of% (ai @w<|ai @cz<|ai @mj<|ai @iQ<|@l8.eq_1):=⟨@w,@cz,@mj,@iQ,@l8.eq_1⟩
theorem Ek (p0:an) (p1:an) (r:Int) (hh:jg p0 p1=some r):aQ .clean tab l8 FU Tryz.f100 none [.agg [.int .i64 p0.ag,.sl false false p0.aa.length (ab (eI .i64) p0.aa)],.agg [.int .i64 p1.ag,.sl false false p1.aa.length (ab (eI .i64) p1.aa)]]=some (.clean (.int .i64 r),none):=by
 refine av rfl Tryz.ntmps100 Tryz.results100 ?_
 unfold jg at hh
 obtain⟨r1,hr1,hh⟩:=ae hh
 try simp only[dz,seval,-Int.reduceToNat,hr1]
 obtain⟨o2,ho2,hh⟩:=ae hh
 refine bD 0 (fun s t H e=>match s with|s12j1=>∃v2j1:Nat,∃v3j1:Nat,t 2=.ptr 2 v2j1 0∧t 3=.ptr 3 v3j1 0∧t 12=.bool s12j1∧H 2=some ⟨v2j1,49,[.int .i64 p0.ag,.sl false false p0.aa.length (ab (eI .i64) p0.aa)],false,false,false⟩∧H 3=some ⟨v3j1,49,[.int .i64 p1.ag,.sl false false p1.aa.length (ab (eI .i64) p1.aa)],false,false,false⟩) (fun s=>s=o2) ?_ ?_
 ·rintro s12j1 t H e ⟨v2j1,v3j1,Zj1⟩ rfl
  try dsimp only at hh
  try simp only[dz,seval,-Int.reduceToNat,hr1,Zj1]
  refine sp aj hh (fun _ hh =>?_) (fun _ hh =>?_)
  ·cases hh
   try simp only[dz,seval,-Int.reduceToNat,hr1,Zj1]
  ·try simp only[dz,seval,-Int.reduceToNat,hr1,Zj1]
   refine sp aj hh (fun _ hh =>?_) (fun _ hh =>?_)
   ·obtain⟨r5,hr5,hh⟩:=ae hh
    cases hh
    try simp only[dz,seval,-Int.reduceToNat,hr1,Zj1,hr5]
   ·obtain⟨r6,hr6,hh⟩:=ae hh
    try simp only[dz,seval,-Int.reduceToNat,hr1,Zj1,hr6]
    refine bI (by kernel_rfl) ?_
    cases hh
    try simp only[dz,seval,-Int.reduceToNat,hr1,Zj1,hr6]
 ·clear hh
  have hh:=ho2
  try simp only[dz,seval,-Int.reduceToNat,hr1]
  refine sp aU hh (fun _ hh =>?_) (fun _ hh =>?_)
  ·cases hh
   try simp only[dz,seval,-Int.reduceToNat,hr1]
   rw[ak]
   refine⟨_,rfl,?_⟩
   refine⟨0,0,?_,?_,?_,?_,?_⟩
   all_goals first|rfl|(simp only[dz,seval,-Int.reduceToNat,hr1]<;>rfl)
  ·obtain⟨r8,hr8,hh⟩:=ae hh
   cases hh
   try simp only[dz,seval,-Int.reduceToNat,hr1,hr8]
   rw[ak]
   refine⟨_,rfl,?_⟩
   refine⟨0,0,?_,?_,?_,?_,?_⟩
   all_goals first|rfl|(simp only[dz,seval,-Int.reduceToNat,hr1,hr8]<;>rfl)
theorem CX:bH Tryz.prog 100 pU:=bH.of (mode := .clean) tok Cs mixed Tryz.func100 (by kernel_rfl) ⟨by kernel_rfl,by kernel_rfl⟩ (fun _=>Nat.le_of_ble_eq_true (by kernel_rfl)) (fun x r h=>Ek x.1 x.2 r h)
noncomputable def kJ:=eL (ec (cJ kd) (dJ (cJ kd))) (fun x:aF×aF=>fB x.1 x.2) (fun r:Int =>.clean (.int .i64 r))
theorem lj (p0_0:Int) (p0_1:(List Int)) (p0_2:Int) (p0_3:(List Int)) (p1_0:Int) (p1_1:(List Int)) (p1_2:Int) (p1_3:(List Int)):kJ none [.agg [.int .i64 p0_0,.sl false false p0_1.length (ab (eI .i64) p0_1),.int .i64 p0_2,.sl false false p0_3.length (ab (eI .i64) p0_3)],.agg [.int .i64 p1_0,.sl false false p1_1.length (ab (eI .i64) p1_1),.int .i64 p1_2,.sl false false p1_3.length (ab (eI .i64) p1_3)]]=(fB (aF.mk (an.mk p0_0 p0_1) (an.mk p0_2 p0_3)) (aF.mk (an.mk p1_0 p1_1) (an.mk p1_2 p1_3))).map fun r:Int=>(.clean (.int .i64 r),none):=aK _ _ _ ((aF.mk (an.mk p0_0 p0_1) (an.mk p0_2 p0_3)),(aF.mk (an.mk p1_0 p1_1) (an.mk p1_2 p1_3)))
noncomputable def kT:Env:=(Am.ext (Am.ext (Am.ext aS 57 false jq) 100 false pU) 101 false nn)
theorem AN:bN Tryz.prog kT:=(((bN.none.add mg false).add CX false).add vY false)
theorem dR:type_of% (ai @w<|ai @gw<|ai @wb<|ai @nT<|@kT.eq_1):=⟨@w,@gw,@wb,@nT,@kT.eq_1⟩
theorem CN (p0:aF) (p1:aF) (r:Int) (hh:fB p0 p1=some r):aQ .clean tab kT FU Tryz.f58 none [.agg [.int .i64 p0.bx.ag,.sl false false p0.bx.aa.length (ab (eI .i64) p0.bx.aa),.int .i64 p0.bt.ag,.sl false false p0.bt.aa.length (ab (eI .i64) p0.bt.aa)],.agg [.int .i64 p1.bx.ag,.sl false false p1.bx.aa.length (ab (eI .i64) p1.bx.aa),.int .i64 p1.bt.ag,.sl false false p1.bt.aa.length (ab (eI .i64) p1.bt.aa)]]=some (.clean (.int .i64 r),none):=by
 refine av rfl Tryz.ntmps58 Tryz.results58 ?_
 unfold fB at hh
 obtain⟨r1,hr1,hh⟩:=ae hh
 try simp only[dR,seval,-Int.reduceToNat,hr1]
 obtain⟨o2,ho2,hh⟩:=ae hh
 refine bD 0 (fun s t H e=>match s with|s12j1=>∃v2j1:Nat,∃v3j1:Nat,t 2=.ptr 2 v2j1 0∧t 3=.ptr 3 v3j1 0∧t 12=.bool s12j1∧H 2=some ⟨v2j1,51,[.int .i64 p0.bx.ag,.sl false false p0.bx.aa.length (ab (eI .i64) p0.bx.aa),.int .i64 p0.bt.ag,.sl false false p0.bt.aa.length (ab (eI .i64) p0.bt.aa)],false,false,false⟩∧H 3=some ⟨v3j1,51,[.int .i64 p1.bx.ag,.sl false false p1.bx.aa.length (ab (eI .i64) p1.bx.aa),.int .i64 p1.bt.ag,.sl false false p1.bt.aa.length (ab (eI .i64) p1.bt.aa)],false,false,false⟩) (fun s=>s=o2) ?_ ?_
 ·rintro s12j1 t H e ⟨v2j1,v3j1,Zj1⟩ rfl
  try dsimp only at hh
  try simp only[dR,seval,-Int.reduceToNat,hr1,Zj1]
  refine sp aj hh (fun _ hh =>?_) (fun _ hh =>?_)
  ·cases hh
   try simp only[dR,seval,-Int.reduceToNat,hr1,Zj1]
  ·obtain⟨r4,hr4,hh⟩:=ae hh
   obtain⟨r5,hr5,hh⟩:=ae hh
   obtain⟨r6,hr6,hh⟩:=ae hh
   try simp only[dR,seval,-Int.reduceToNat,hr1,Zj1,hr4,hr5,hr6]
   refine bI (by kernel_rfl) ?_
   cases hh
   try simp only[dR,seval,-Int.reduceToNat,hr1,Zj1,hr4,hr5,hr6]
 ·clear hh
  have hh:=ho2
  try simp only[dR,seval,-Int.reduceToNat,hr1]
  refine sp aU hh (fun _ hh =>?_) (fun _ hh =>?_)
  ·cases hh
   try simp only[dR,seval,-Int.reduceToNat,hr1]
   rw[ak]
   refine⟨_,rfl,?_⟩
   refine⟨0,0,?_,?_,?_,?_,?_⟩
   all_goals first|rfl|(simp only[dR,seval,-Int.reduceToNat,hr1]<;>rfl)
  ·obtain⟨r8,hr8,hh⟩:=ae hh
   cases hh
   try simp only[dR,seval,-Int.reduceToNat,hr1,hr8]
   rw[ak]
   refine⟨_,rfl,?_⟩
   refine⟨0,0,?_,?_,?_,?_,?_⟩
   all_goals first|rfl|(simp only[dR,seval,-Int.reduceToNat,hr1,hr8]<;>rfl)
theorem sD:bH Tryz.prog 58 kJ:=bH.of (mode := .clean) tok AN mixed Tryz.func58 (by kernel_rfl) ⟨by kernel_rfl,by kernel_rfl⟩ (fun _=>Nat.le_of_ble_eq_true (by kernel_rfl)) (fun x r h=>CN x.1 x.2 r h)
noncomputable def jr:=eL (dJ (cJ fc)) (fun x:bK=>dZ x) (fun r:Bool =>.clean (.bool r))
theorem gz (p0_0:Int) (p0_1:(List Int)) (p0_2:Int) (p0_3:(List Int)) (p0_4:Int) (p0_5:(List Int)) (p0_6:Int) (p0_7:(List Int)):jr none [.agg [.int .i64 p0_0,.sl false false p0_1.length (ab (eI .i64) p0_1),.int .i64 p0_2,.sl false false p0_3.length (ab (eI .i64) p0_3),.int .i64 p0_4,.sl false false p0_5.length (ab (eI .i64) p0_5),.int .i64 p0_6,.sl false false p0_7.length (ab (eI .i64) p0_7)]]=(dZ (bK.mk (aF.mk (an.mk p0_0 p0_1) (an.mk p0_2 p0_3)) (aF.mk (an.mk p0_4 p0_5) (an.mk p0_6 p0_7)))).map fun r:Bool=>(.clean (.bool r),none):=aK _ _ _ ((bK.mk (aF.mk (an.mk p0_0 p0_1) (an.mk p0_2 p0_3)) (aF.mk (an.mk p0_4 p0_5) (an.mk p0_6 p0_7))))
noncomputable def nF:Env:=(Am.ext (Am.ext aS 57 false jq) 58 false kJ)
theorem D7:bN Tryz.prog nF:=((bN.none.add mg false).add sD false)
theorem lB:type_of% (ai @w<|ai @gw<|ai @lj<|@nF.eq_1):=⟨@w,@gw,@lj,@nF.eq_1⟩
theorem HC (p0:bK) (r:Bool) (hh:dZ p0=some r):aQ .clean tab nF FU Tryz.f30 none [.agg [.int .i64 p0.aH.bx.ag,.sl false false p0.aH.bx.aa.length (ab (eI .i64) p0.aH.bx.aa),.int .i64 p0.aH.bt.ag,.sl false false p0.aH.bt.aa.length (ab (eI .i64) p0.aH.bt.aa),.int .i64 p0.az.bx.ag,.sl false false p0.az.bx.aa.length (ab (eI .i64) p0.az.bx.aa),.int .i64 p0.az.bt.ag,.sl false false p0.az.bt.aa.length (ab (eI .i64) p0.az.bt.aa)]]=some (.clean (.bool r),none):=by
 refine av rfl Tryz.ntmps30 Tryz.results30 ?_
 unfold dZ at hh
 obtain⟨r1,hr1,hh⟩:=ae hh
 try simp only[lB,seval,-Int.reduceToNat,hr1]
 refine sp bJ hh (fun _ hh =>?_) (fun _ hh =>?_)
 ·obtain⟨r3,hr3,hh⟩:=ae hh
  try simp only[lB,seval,-Int.reduceToNat,hr1,hr3]
  refine sp bJ hh (fun _ hh =>?_) (fun _ hh =>?_)
  ·obtain⟨r5,hr5,hh⟩:=ae hh
   cases hh
   try simp only[lB,seval,-Int.reduceToNat,hr1,hr3,hr5]
  ·cases hh
   try simp only[lB,seval,-Int.reduceToNat,hr1,hr3]
 ·cases hh
  try simp only[lB,seval,-Int.reduceToNat,hr1]
theorem mh:bH Tryz.prog 30 jr:=bH.of (mode := .clean) tok D7 mixed Tryz.func30 (by kernel_rfl) ⟨by kernel_rfl,by kernel_rfl⟩ (fun _=>Nat.le_of_ble_eq_true (by kernel_rfl)) (fun x r h=>HC x r h)
noncomputable def mQ:=eL (dJ (cJ bd)) (fun x:aB=>iL x) (fun r:Bool =>.clean (.bool r))
theorem sF (p0_0:Int) (p0_1:Int) (p0_2:(List Int)) (p0_3:Int) (p0_4:(List Int)) (p0_5:Int) (p0_6:(List Int)) (p0_7:Int) (p0_8:(List Int)):mQ none [.agg [.int .i64 p0_0,.int .i64 p0_1,.sl false false p0_2.length (ab (eI .i64) p0_2),.int .i64 p0_3,.sl false false p0_4.length (ab (eI .i64) p0_4),.int .i64 p0_5,.sl false false p0_6.length (ab (eI .i64) p0_6),.int .i64 p0_7,.sl false false p0_8.length (ab (eI .i64) p0_8)]]=(iL (aB.mk p0_0 (bK.mk (aF.mk (an.mk p0_1 p0_2) (an.mk p0_3 p0_4)) (aF.mk (an.mk p0_5 p0_6) (an.mk p0_7 p0_8))))).map fun r:Bool=>(.clean (.bool r),none):=aK _ _ _ ((aB.mk p0_0 (bK.mk (aF.mk (an.mk p0_1 p0_2) (an.mk p0_3 p0_4)) (aF.mk (an.mk p0_5 p0_6) (an.mk p0_7 p0_8)))))
noncomputable def j0:Env:=(Am.ext aS 30 false jr)
theorem yT:bN Tryz.prog j0:=(bN.none.add mh false)
theorem AY:type_of% (ai @w<|ai @gz<|@j0.eq_1):=⟨@w,@gz,@j0.eq_1⟩
theorem AO (p0:aB) (r:Bool) (hh:iL p0=some r):aQ .clean tab j0 FU Tryz.f41 none [.agg [.int .i64 p0.ct,.int .i64 p0.bP.aH.bx.ag,.sl false false p0.bP.aH.bx.aa.length (ab (eI .i64) p0.bP.aH.bx.aa),.int .i64 p0.bP.aH.bt.ag,.sl false false p0.bP.aH.bt.aa.length (ab (eI .i64) p0.bP.aH.bt.aa),.int .i64 p0.bP.az.bx.ag,.sl false false p0.bP.az.bx.aa.length (ab (eI .i64) p0.bP.az.bx.aa),.int .i64 p0.bP.az.bt.ag,.sl false false p0.bP.az.bt.aa.length (ab (eI .i64) p0.bP.az.bt.aa)]]=some (.clean (.bool r),none):=by
 refine av rfl Tryz.ntmps41 Tryz.results41 ?_
 unfold iL at hh
 obtain⟨r1,hr1,hh⟩:=ae hh
 cases hh
 try simp only[AY,seval,-Int.reduceToNat,hr1]
theorem y9:bH Tryz.prog 41 mQ:=bH.of (mode := .clean) tok yT mixed Tryz.func41 (by kernel_rfl) ⟨by kernel_rfl,by kernel_rfl⟩ (fun _=>Nat.le_of_ble_eq_true (by kernel_rfl)) (fun x r h=>AO x r h)
noncomputable def kK:=eL (dJ (aI .u64)) (fun x:Int=>iI x) (fun r:Int =>.clean (.int .i64 r))
theorem pK (p0:Int):kK none [.int .u64 p0]=(iI p0).map fun r:Int=>(.clean (.int .i64 r),none):=aK _ _ _ (p0)
theorem xQ (p0:Int) (r:Int) (hh:iI p0=some r):aQ .clean tab aS FU Tryz.f149 none [.int .u64 p0]=some (.clean (.int .i64 r),none):=by
 refine av rfl Tryz.ntmps149 Tryz.results149 ?_
 unfold iI at hh
 try simp only[w,seval,-Int.reduceToNat]
 obtain⟨o1,ho1,hh⟩:=ae hh
 refine iK 0 (fun s t H e=>match s with|(s0j1,s2j1)=>t 0=.int .u64 s0j1∧t 2=.int .i64 s2j1) (fun s=>s=o1) ?_ ?_
 ·rintro⟨s0j1,s2j1⟩ t H e Zj1 rfl
  try dsimp only at hh
  try simp only[w,seval,-Int.reduceToNat,Zj1]
  obtain⟨o2,ho2,hh⟩:=ae hh
  refine iK 0 (fun s t H e=>match s with|(s0j2,s2j2)=>t 0=.int .u64 s0j2∧t 2=.int .i64 s2j2) (fun s=>s=o2) ?_ ?_
  ·rintro⟨s0j2,s2j2⟩ t H e Zj2 rfl
   try dsimp only at hh
   try simp only[w,seval,-Int.reduceToNat,Zj2]
   refine sp aj hh (fun _ hh =>?_) (fun _ hh =>?_)
   ·obtain⟨x4,hx4,hh⟩:=ae hh
    have q5:=n9 hx4
    try simp only[w,seval,-Int.reduceToNat,Zj2,q5]
    obtain⟨x6,hx6,hh⟩:=ae hh
    obtain⟨q7a,q7b,q7c,q7d⟩:=Pv hx6
    try simp only[w,seval,-Int.reduceToNat,Zj2,q5,q7a,q7d]
    erw [q7c]
    cases hh
    try simp only[w,seval,-Int.reduceToNat,Zj2,q5,q7a,q7d]
   ·try simp only[w,seval,-Int.reduceToNat,Zj2]
    obtain⟨x8,hx8,hh⟩:=ae hh
    obtain⟨q9a,q9b,q9c,q9d⟩:=Pv hx8
    try simp only[w,seval,-Int.reduceToNat,Zj2,q9a,q9d]
    erw [q9c]
    cases hh
    try simp only[w,seval,-Int.reduceToNat,Zj2,q9a,q9d]
  ·clear hh
   have hh:=ho2
   try simp only[w,seval,-Int.reduceToNat,Zj1]
   refine sp aj hh (fun _ hh =>?_) (fun _ hh =>?_)
   ·obtain⟨x11,hx11,hh⟩:=ae hh
    have q12:=n9 hx11
    cases hh
    try simp only[w,seval,-Int.reduceToNat,Zj1,q12]
    rw[ak]
    refine⟨_,rfl,?_⟩
    refine⟨?_,?_⟩
    all_goals first|rfl|(simp only[w,seval,-Int.reduceToNat,Zj1,q12]<;>rfl)
   ·cases hh
    try simp only[w,seval,-Int.reduceToNat,Zj1]
    rw[ak]
    refine⟨_,rfl,?_⟩
    refine⟨?_,?_⟩
    all_goals first|rfl|(simp only[w,seval,-Int.reduceToNat,Zj1]<;>rfl)
 ·clear hh
  have hh:=ho1
  try simp only[w,seval,-Int.reduceToNat]
  refine sp aj hh (fun _ hh =>?_) (fun _ hh =>?_)
  ·obtain⟨x14,hx14,hh⟩:=ae hh
   have q15:=n9 hx14
   cases hh
   try simp only[w,seval,-Int.reduceToNat,q15]
   rw[ak]
   refine⟨_,rfl,?_⟩
   refine⟨?_,?_⟩
   all_goals first|rfl|(simp only[w,seval,-Int.reduceToNat,q15]<;>rfl)
  ·cases hh
   try simp only[w,seval,-Int.reduceToNat]
   rw[ak]
   refine⟨_,rfl,?_⟩
   refine⟨?_,?_⟩
   all_goals first|rfl|(simp only[w,seval,-Int.reduceToNat]<;>rfl)
theorem wW:bH Tryz.prog 149 kK:=bH.of (mode := .clean) tok bN.none mixed Tryz.func149 (by kernel_rfl) ⟨by kernel_rfl,by kernel_rfl⟩ (fun _=>Nat.le_of_ble_eq_true (by kernel_rfl)) (fun x r h=>xQ x r h)
noncomputable def mR:=eL (dJ (aI .u64)) (fun x:Int=>jP x) (fun r:Int =>.clean (.int .i64 r))
theorem sG (p0:Int):mR none [.int .u64 p0]=(jP p0).map fun r:Int=>(.clean (.int .i64 r),none):=aK _ _ _ (p0)
noncomputable def j5:Env:=(Am.ext aS 149 false kK)
theorem yV:bN Tryz.prog j5:=(bN.none.add wW false)
theorem AZ:type_of% (ai @w<|ai @pK<|@j5.eq_1):=⟨@w,@pK,@j5.eq_1⟩
theorem AQ (p0:Int) (r:Int) (hh:jP p0=some r):aQ .clean tab j5 FU Tryz.f107 none [.int .u64 p0]=some (.clean (.int .i64 r),none):=by
 refine av rfl Tryz.ntmps107 Tryz.results107 ?_
 unfold jP at hh
 obtain⟨r1,hr1,hh⟩:=ae hh
 cases hh
 try simp only[AZ,seval,-Int.reduceToNat,hr1]
theorem zb:bH Tryz.prog 107 mR:=bH.of (mode := .clean) tok yV mixed Tryz.func107 (by kernel_rfl) ⟨by kernel_rfl,by kernel_rfl⟩ (fun _=>Nat.le_of_ble_eq_true (by kernel_rfl)) (fun x r h=>AQ x r h)
noncomputable def wy:=eL (ec (aI .i64) (dJ (aI .i64))) (fun x:Int×Int=>tv x.1 x.2) (fun r:Bool =>.clean (.bool r))
theorem Da (p0:Int) (p1:Int):wy none [.int .i64 p0,.int .i64 p1]=(tv p0 p1).map fun r:Bool=>(.clean (.bool r),none):=aK _ _ _ (p0,p1)
noncomputable def rn:Env:=(Am.ext aS 166 false pb)
theorem JK:bN Tryz.prog rn:=(bN.none.add xS false)
theorem oX:type_of% (ai @w<|ai @pJ<|@rn.eq_1):=⟨@w,@pJ,@rn.eq_1⟩
theorem MW (p0:Int) (p1:Int) (r:Bool) (hh:tv p0 p1=some r):aQ .clean tab rn FU Tryz.f145 none [.int .i64 p0,.int .i64 p1]=some (.clean (.bool r),none):=by
 refine av rfl Tryz.ntmps145 Tryz.results145 ?_
 unfold tv at hh
 obtain⟨r1,hr1,hh⟩:=ae hh
 try simp only[oX,seval,-Int.reduceToNat,hr1]
 refine sp bJ hh (fun _ hh =>?_) (fun _ hh =>?_)
 ·obtain⟨r3,hr3,hh⟩:=ae hh
  try simp only[oX,seval,-Int.reduceToNat,hr1,hr3]
  refine sp aU hh (fun _ hh =>?_) (fun _ hh =>?_)
  ·cases hh
   try simp only[oX,seval,-Int.reduceToNat,hr1,hr3]
  ·cases hh
   try simp only[oX,seval,-Int.reduceToNat,hr1,hr3]
 ·cases hh
  try simp only[oX,seval,-Int.reduceToNat,hr1]
theorem K1:bH Tryz.prog 145 wy:=bH.of (mode := .clean) tok JK mixed Tryz.func145 (by kernel_rfl) ⟨by kernel_rfl,by kernel_rfl⟩ (fun _=>Nat.le_of_ble_eq_true (by kernel_rfl)) (fun x r h=>MW x.1 x.2 r h)
noncomputable def eN:=Ry 3 (eI .i64) (ec (aI .i64) (dJ (aI .i64))) (fun (l:(List Int)) (x:Int×Int)=>bV l x.1 x.2) (fun r:Unit =>.clean (.tup []))
theorem lE (pre post:List D) (p0:(List Int)) (p1:Int) (p2:Int):eN (some (.buf 0 0 1 pre.length p0.length,⟨0,3,pre++(ab (eI .i64) p0++post),false,true,false⟩)) [.int .i64 p1,.int .i64 p2]=(bV p0 p1 p2).map fun r=>(.clean (.tup []),some ⟨0,3,pre++(ab (eI .i64) r.1++post),false,true,false⟩):=CS _ _ _ _ _ pre post p0 (p1,p2)
noncomputable def dp:Env:=(Am.ext aS 145 false wy)
theorem kU:bN Tryz.prog dp:=(bN.none.add K1 false)
theorem au:type_of% (ai @w<|ai @Da<|@dp.eq_1):=⟨@w,@Da,@dp.eq_1⟩
theorem lD (pre post:List D) (p0:(List Int)) (p1:Int) (p2:Int) (r:(List Int)×(Unit)) (hh:bV p0 p1 p2=some r):aQ .clean tab dp FU Tryz.f139 (some (.buf 0 0 1 pre.length p0.length,⟨0,3,pre++(ab (eI .i64) p0++post),false,true,false⟩)) [.int .i64 p1,.int .i64 p2]=some (.clean (.tup []),some ⟨0,3,pre++(ab (eI .i64) r.1++post),false,true,false⟩):=by
 refine oW rfl Tryz.ntmps139 Tryz.results139 ?_
 unfold bV at hh
 obtain⟨rw,hrw,hh⟩:=ae hh
 split at hh
 rotate_left
 ·cases hh
 cases hh
 rename_i hlen
 replace hh:=hrw
 unfold gL at hh
 try simp only[au,seval,-Int.reduceToNat]
 obtain⟨o25,ho25,hh⟩:=ae hh
 refine aA (fun s t H e=>match s with|(s6a,l0a)=>t 0=.buf 0 0 1 pre.length (l0a).length∧t 1=.int .i64 p1∧t 2=.int .i64 p2∧t 6=.int .i64 s6a∧H 0=some ⟨0,3,pre++(ab (eI .i64) l0a++post),false,true,false⟩) (fun o x t H e=>match o with|l0ax=>x=.exit 0∧t 0=.buf 0 0 1 pre.length (l0ax).length∧H 0=some ⟨0,3,pre++(ab (eI .i64) l0ax++post),false,true,false⟩) ho25 ?_ ?_ ?_
 ·refine⟨?_,?_,?_,?_,?_⟩
  all_goals first|rfl|(simp only[au,seval,-Int.reduceToNat]<;>rfl)
 ·rintro⟨s6a,l0a⟩ t H e Za c hh
  simp only[gD]at hh
  try simp only[au,seval,-Int.reduceToNat,Za]
  refine sp aj hh (fun _ hh =>?_) (fun _ hh =>?_)
  ·try simp only[au,seval,-Int.reduceToNat,Za]
   obtain⟨o38,ho38,hh⟩:=ae hh
   refine aA (fun s t H e=>match s with|(s7e,l0e)=>t 0=.buf 0 0 1 pre.length (l0e).length∧t 1=.int .i64 p1∧t 2=.int .i64 p2∧t 6=.int .i64 s6a∧t 7=.int .i64 s7e∧H 0=some ⟨0,3,pre++(ab (eI .i64) l0e++post),false,true,false⟩) (fun o x t H e=>match o with|l0ex=>x=.exit 2∧t 0=.buf 0 0 1 pre.length (l0ex).length∧t 1=.int .i64 p1∧t 2=.int .i64 p2∧t 6=.int .i64 s6a∧H 0=some ⟨0,3,pre++(ab (eI .i64) l0ex++post),false,true,false⟩) ho38 ?_ ?_ ?_
   ·refine⟨?_,?_,?_,?_,?_,?_⟩
    all_goals first|rfl|(simp only[au,seval,-Int.reduceToNat,Za]<;>rfl)
   ·rintro⟨s7e,l0e⟩ t H e Ze c hh
    simp only[gE]at hh
    try simp only[au,seval,-Int.reduceToNat,Ze]
    obtain⟨o39,ho39,hh⟩:=ae hh
    refine LX 0 (fun s t H e=>match s with|s30j7=>t 0=.buf 0 0 1 pre.length (l0e).length∧t 1=.int .i64 p1∧t 2=.int .i64 p2∧t 6=.int .i64 s6a∧t 7=.int .i64 s7e∧t 30=.bool s30j7∧H 0=some ⟨0,3,pre++(ab (eI .i64) l0e++post),false,true,false⟩) (fun s=>s=o39) ?_ ?_
    ·rintro s30j7 t H e Zj7 rfl
     try dsimp only at hh
     try simp only[au,seval,-Int.reduceToNat,Zj7]
     refine sp aj hh (fun _ hh =>?_) (fun _ hh =>?_)
     ·obtain⟨x41,hx41,hh⟩:=ae hh
      have ax41:=tQ (pre:=pre) (post:=post) (eI .i64) hx41
      simp only[bU]at ax41
      obtain⟨x42,hx42,hh⟩:=ae hh
      have ax42:=tQ (pre:=pre) (post:=post) (eI .i64) hx42
      simp only[bU]at ax42
      have ax42:=tQ (pre:=pre) (post:=post) (eI .i64) hx42
      simp only[bU]at ax42
      have p43:=xV (pre:=pre) (post:=post) (eI .i64) (y':=x41) hx42
      simp only[bU]at p43
      have up43:=p43
      simp only[putCells,List.length_cons,List.length_nil,Nat.zero_add,Nat.reduceAdd]at up43
      obtain⟨x44,hx44,hh⟩:=ae hh
      have ax44:=tQ (pre:=pre) (post:=post) (eI .i64) hx44
      simp only[bU,List.length_set]at ax44
      have p45:=xV (pre:=pre) (post:=post) (eI .i64) (y':=x42) hx44
      simp only[bU]at p45
      have up45:=p45
      simp only[putCells,List.length_cons,List.length_nil,Nat.zero_add,Nat.reduceAdd]at up45
      try simp only[au,seval,-Int.reduceToNat,Zj7,ax41,ax42,ax42,p43,up43,ax44,p45,up45]
      refine bI (by kernel_rfl) ?_
      cases hh
      try simp only[au,seval,-Int.reduceToNat,Zj7,ax41,ax42,ax42,p43,up43,ax44,p45,up45]
      refine jB ?_
      refine⟨?_,?_,?_,?_,?_,?_⟩
      all_goals first|rfl|(simp only[au,seval,-Int.reduceToNat,Zj7,ax41,ax42,ax42,p43,up43,ax44,p45,up45]<;>rfl)
     ·cases hh
      try simp only[au,seval,-Int.reduceToNat,Zj7]
      refine kH ?_
      refine⟨rfl,⟨?_,?_,?_,?_,?_⟩⟩
      all_goals first|rfl|(simp only[au,seval,-Int.reduceToNat,Zj7]<;>rfl)
    ·clear hh
     have hh:=ho39
     try simp only[au,seval,-Int.reduceToNat,Ze]
     refine sp mq hh (fun _ hh =>?_) (fun _ hh =>?_)
     ·obtain⟨x47,hx47,hh⟩:=ae hh
      have ax47:=tQ (pre:=pre) (post:=post) (eI .i64) hx47
      simp only[bU]at ax47
      obtain⟨x48,hx48,hh⟩:=ae hh
      have ax48:=tQ (pre:=pre) (post:=post) (eI .i64) hx48
      simp only[bU]at ax48
      obtain⟨r49,hr49,hh⟩:=ae hh
      try simp only[au,seval,-Int.reduceToNat,Ze,ax47,ax48,hr49]
      refine bI (by kernel_rfl) ?_
      cases hh
      try simp only[au,seval,-Int.reduceToNat,Ze,ax47,ax48,hr49]
      rw[ak]
      refine⟨_,rfl,?_⟩
      refine⟨?_,?_,?_,?_,?_,?_,?_⟩
      all_goals first|rfl|(simp only[au,seval,-Int.reduceToNat,Ze,ax47,ax48,hr49]<;>rfl)
     ·try simp only[au,seval,-Int.reduceToNat,Ze]
      refine bI (by kernel_rfl) ?_
      cases hh
      try simp only[au,seval,-Int.reduceToNat,Ze]
      rw[ak]
      refine⟨_,rfl,?_⟩
      refine⟨?_,?_,?_,?_,?_,?_,?_⟩
      all_goals first|rfl|(simp only[au,seval,-Int.reduceToNat,Ze]<;>rfl)
   ·rintro x t H e hx
    obtain⟨l0ex,rfl⟩:∃z,z=o38:=⟨_,rfl⟩
    dsimp only at hx hh
    obtain⟨rfl,Zex⟩:=hx
    cases hh
    try simp only[au,seval,-Int.reduceToNat,Zex]
    refine jB ?_
    refine⟨?_,?_,?_,?_,?_⟩
    all_goals first|rfl|(simp only[au,seval,-Int.reduceToNat,Zex]<;>rfl)
  ·cases hh
   try simp only[au,seval,-Int.reduceToNat,Za]
   refine kH ?_
   refine⟨rfl,⟨?_,?_⟩⟩
   all_goals first|rfl|(simp only[au,seval,-Int.reduceToNat,Za]<;>rfl)
 ·rintro x t H e hx
  obtain⟨l0ax,rfl⟩:∃z,z=o25:=⟨_,rfl⟩
  dsimp only at hx hh
  obtain⟨rfl,Zax⟩:=hx
  cases hh
  try simp only[au,seval,-Int.reduceToNat,Zax]
theorem kY:bH Tryz.prog 139 eN:=bH.O6 (mode := .clean) tok kU mixed Tryz.func139 (by kernel_rfl) ⟨by kernel_rfl,by kernel_rfl⟩ (fun _=>Nat.le_of_ble_eq_true (by kernel_rfl)) (fun pre post l x l' r h=>lD pre post l x.1 x.2 (l',r) h)
noncomputable def fZ:=Ry 3 (eI .i64) (ec (aI .i64) (ec (aI .i64) (dJ (aI .i64)))) (fun (l:(List Int)) (x:Int×Int×Int)=>cF l x.1 x.2.1 x.2.2) (fun r:Unit =>.clean (.tup []))
theorem o0 (pre post:List D) (p0:(List Int)) (p1:Int) (p2:Int) (p3:Int):fZ (some (.buf 0 0 1 pre.length p0.length,⟨0,3,pre++(ab (eI .i64) p0++post),false,true,false⟩)) [.int .i64 p1,.int .i64 p2,.int .i64 p3]=(cF p0 p1 p2 p3).map fun r=>(.clean (.tup []),some ⟨0,3,pre++(ab (eI .i64) r.1++post),false,true,false⟩):=CS _ _ _ _ _ pre post p0 (p1,p2,p3)
noncomputable def eO:Env:=(Am.ext aS 139 true eN)
theorem oL:bN Tryz.prog eO:=(bN.none.add kY true)
theorem cM:type_of% (ai @w<|@eO.eq_1):=⟨@w,@eO.eq_1⟩
theorem oZ (pre post:List D) (p0:(List Int)) (p1:Int) (p2:Int) (p3:Int) (r:(List Int)×(Unit)) (hh:cF p0 p1 p2 p3=some r):aQ .clean tab eO FU Tryz.f106 (some (.buf 0 0 1 pre.length p0.length,⟨0,3,pre++(ab (eI .i64) p0++post),false,true,false⟩)) [.int .i64 p1,.int .i64 p2,.int .i64 p3]=some (.clean (.tup []),some ⟨0,3,pre++(ab (eI .i64) r.1++post),false,true,false⟩):=by
 refine oW rfl Tryz.ntmps106 Tryz.results106 ?_
 unfold cF at hh
 obtain⟨rw,hrw,hh⟩:=ae hh
 split at hh
 rotate_left
 ·cases hh
 cases hh
 rename_i hlen
 replace hh:=hrw
 unfold jC at hh
 try simp only[cM,seval,-Int.reduceToNat]
 obtain⟨o6,ho6,hh⟩:=ae hh
 refine aA (fun s t H e=>match s with|_=>t 0=.buf 0 0 1 pre.length (p0).length∧t 1=.int .i64 p1∧t 2=.int .i64 p2∧t 3=.int .i64 p3∧t 8=.bool true∧t 9=.bool true∧H 0=some ⟨0,3,pre++(ab (eI .i64) p0++post),false,true,false⟩) (fun o x t H e=>match o with|r=>x=.ret∧gW .clean tab (some (.buf 0 0 1 pre.length p0.length,⟨0,3,pre++(ab (eI .i64) p0++post),false,true,false⟩)) [] ⟨t,H,e⟩=some (.clean (.tup []),some ⟨0,3,pre++(ab (eI .i64) r.1++post),false,true,false⟩)) ho6 ?_ ?_ ?_
 ·refine⟨?_,?_,?_,?_,?_,?_,?_⟩
  all_goals first|rfl|(simp only[cM,seval,-Int.reduceToNat]<;>rfl)
 ·rintro _ t H e Za c hh
  simp only[jl]at hh
  try simp only[cM,seval,-Int.reduceToNat,Za]
  refine sp aj hh (fun _ hh =>?_) (fun _ hh =>?_)
  ·have i8:=lE pre post p0 p1 p2
   try simp only[List.nil_append,List.append_nil,List.length_nil,aP,List.length_set,bU]at i8
   obtain⟨r9,hr9,hh⟩:=ae hh
   have q10l:=kF hr9
   cases hh
   try simp only[cM,seval,-Int.reduceToNat,Za,i8,hr9,q10l]
   refine yZ ⟨rfl,?_⟩
   try simp only[cM,seval,-Int.reduceToNat,Za,i8,hr9,q10l]
  ·try simp only[cM,seval,-Int.reduceToNat,Za]
   refine sp aj hh (fun _ hh =>?_) (fun _ hh =>?_)
   ·cases hh
   ·cases hh
 ·rintro x t H e hx
  rcases o6 with ra
  dsimp only at hx hh
  obtain⟨rfl,hE⟩:=hx
  cases hh
  try simp only[bq,bj,bF,dr,dq]
  exact hE
theorem oP:bH Tryz.prog 106 fZ:=bH.O6 (mode := .clean) tok oL mixed Tryz.func106 (by kernel_rfl) ⟨by kernel_rfl,by kernel_rfl⟩ (fun _=>Nat.le_of_ble_eq_true (by kernel_rfl)) (fun pre post l x l' r h=>oZ pre post l x.1 x.2.1 x.2.2 (l',r) h)
noncomputable def AG:=Ry 3 (eI .i64) (UR) (fun (l:(List Int)) (x:Unit)=>p7 l) (fun r:Unit =>.clean (.tup []))
noncomputable def j6:Env:=(Am.ext (Am.ext aS 106 true fZ) 107 false mR)
theorem yW:bN Tryz.prog j6:=((bN.none.add oP true).add zb false)
theorem A0:type_of% (ai @w<|ai @sG<|@j6.eq_1):=⟨@w,@sG,@j6.eq_1⟩
theorem AR (pre post:List D) (p0:(List Int)) (r:(List Int)×(Unit)) (hh:p7 p0=some r):aQ .clean tab j6 FU Tryz.f69 (some (.buf 0 0 1 pre.length p0.length,⟨0,3,pre++(ab (eI .i64) p0++post),false,true,false⟩)) []=some (.clean (.tup []),some ⟨0,3,pre++(ab (eI .i64) r.1++post),false,true,false⟩):=by
 refine oW rfl Tryz.ntmps69 Tryz.results69 ?_
 unfold p7 at hh
 obtain⟨rw,hrw,hh⟩:=ae hh
 split at hh
 rotate_left
 ·cases hh
 cases hh
 rename_i hlen
 replace hh:=hrw
 unfold sM at hh
 obtain⟨r1,hr1,hh⟩:=ae hh
 have i2:=o0 pre post p0 0 ((p0).length:Int) r1
 try simp only[List.nil_append,List.append_nil,List.length_nil,aP,List.length_set,bU]at i2
 obtain⟨r3,hr3,hh⟩:=ae hh
 have q4l:=nO hr3
 cases hh
 try simp only[A0,seval,-Int.reduceToNat,hr1,i2,hr3,q4l]
theorem zc:bH Tryz.prog 69 AG:=bH.O6 (mode := .clean) tok yW mixed Tryz.func69 (by kernel_rfl) ⟨by kernel_rfl,by kernel_rfl⟩ (fun _=>Nat.le_of_ble_eq_true (by kernel_rfl)) (fun pre post l x l' r h=>AR pre post l (l',r) h)
noncomputable def qL:=Ry 3 (eI .i64) UR (fun (l:(List Int)) (_:Unit)=>kf l) (fun _:Unit =>.clean (.tup []))
theorem H7 (pre post:List D) (p0:(List Int)):qL (some (.buf 0 0 1 pre.length p0.length,⟨0,3,pre++(ab (eI .i64) p0++post),false,true,false⟩)) []=(kf p0).map fun r=>(.clean (.tup []),some ⟨0,3,pre++(ab (eI .i64) r.1++post),false,true,false⟩):=CS _ _ _ _ _ pre post p0 ()
theorem Yx:RR Tryz.prog 69:=fun blk off cap zs w hH hb hl=>Any.slices_Sort_int Tryz.Hu blk off cap zs w hH hb hl
theorem Ew:bH Tryz.prog 69 qL:=VJ Tryz.func69 ⟨by kernel_rfl,by kernel_rfl⟩ (fun l=>by simp only[kf]) zc (by kernel_rfl) Yx
noncomputable def iu:=Ws 3 (eI .i64) UR (fun (l:(List Int)) (_:Unit)=>jk l)
theorem oQ (pre post:List D) (p0:(List Int)):iu (some (.buf 0 0 1 pre.length p0.length,⟨0,3,pre++(ab (eI .i64) p0++post),false,true,false⟩)) []=(jk p0).map fun r=>(.fresh 3 1 r.length (ab (eI .i64) r),none):=Tn _ _ _ _ pre post p0 ()
theorem nh:bH Tryz.prog 70 iu:=Mm Tryz.func70 ⟨by kernel_rfl,by kernel_rfl⟩ ⟨fun blk off cap zs w h1 h2 h3=>Any.slices_Compact_int Tryz.Td blk off cap zs w h1 h2 h3,fun a cap w=>Any.slices_Compact_int_empty Tryz.Td a cap w⟩
noncomputable def lV:=eL (dJ (iE (eI .i64))) (fun x:(List Int)=>gj x) (fun r:Bool =>.clean (.bool r))
theorem mi (p0:(List Int)):lV none [.sl false false p0.length (ab (eI .i64) p0)]=(gj p0).map fun r:Bool=>(.clean (.bool r),none):=aK _ _ _ (p0)
noncomputable def l7:Env:=(Am.ext (Am.ext (Am.ext aS 65 false dI) 69 true qL) 70 true iu)
theorem Cr:bN Tryz.prog l7:=(((bN.none.add eT false).add Ew true).add nh true)
theorem EK:type_of% (ai @w<|ai @ck<|@l7.eq_1):=⟨@w,@ck,@l7.eq_1⟩
theorem Ej (p0:(List Int)) (r:Bool) (hh:gj p0=some r):aQ .clean tab l7 FU Tryz.f42 none [.sl false false p0.length (ab (eI .i64) p0)]=some (.clean (.bool r),none):=by
 refine av rfl Tryz.ntmps42 Tryz.results42 ?_
 unfold gj at hh
 obtain⟨r1,hr1,hh⟩:=ae hh
 have i2:=H7 [] [] r1
 try simp only[List.nil_append,List.append_nil,List.length_nil,aP,List.length_set,bU]at i2
 obtain⟨r3,hr3,hh⟩:=ae hh
 have q4l:=CI hr3
 replace q4l:=q4l.symm
 try simp only[q4l]at i2
 have i5:=oQ [] [] r3.1
 try simp only[List.nil_append,List.append_nil,List.length_nil,aP,List.length_set,bU]at i5
 obtain⟨r6,hr6,hh⟩:=ae hh
 cases hh
 try simp only[EK,seval,-Int.reduceToNat,hr1,i2,hr3,q4l,i5,hr6]
theorem ua:bH Tryz.prog 42 lV:=bH.of (mode := .clean) tok Cr mixed Tryz.func42 (by kernel_rfl) ⟨by kernel_rfl,by kernel_rfl⟩ (fun _=>Nat.le_of_ble_eq_true (by kernel_rfl)) (fun x r h=>Ej x r h)
noncomputable def im:=eL (ec (cJ bZ) (dJ (RU (eI .i64)))) (fun x:aN×Int=>ee x.1 x.2) (fun r:Bool =>.clean (.bool r))
theorem lf (p0_0:Int) (p0_1:(List Int)) (p0_2:ByteArray) (p0_3:Int) (p0_4:Int) (p1:Int):im none [.agg [.int .i64 p0_0,.sl false false p0_1.length (ab (eI .i64) p0_1),.str p0_2,.int .i64 p0_3,.int .i64 p0_4],.ip [.int .i64 p1]]=(ee (aN.mk p0_0 p0_1 p0_2 p0_3 p0_4) p1).map fun r:Bool=>(.clean (.bool r),none):=aK _ _ _ ((aN.mk p0_0 p0_1 p0_2 p0_3 p0_4),p1)
theorem rJ (p0:aN) (p1:Int) (r:Bool) (hh:ee p0 p1=some r):aQ .clean tab aS FU Tryz.f72 none [.agg [.int .i64 p0.ct,.sl false false p0.dO.length (ab (eI .i64) p0.dO),.str p0.cI,.int .i64 p0.aJ,.int .i64 p0.aM],.ip [.int .i64 p1]]=some (.clean (.bool r),none):=by
 refine av rfl Tryz.ntmps72 Tryz.results72 ?_
 unfold ee at hh
 cases hh
 try simp only[w,seval,-Int.reduceToNat]
theorem qy:bH Tryz.prog 72 im:=bH.of (mode := .clean) tok bN.none mixed Tryz.func72 (by kernel_rfl) ⟨by kernel_rfl,by kernel_rfl⟩ (fun _=>Nat.le_of_ble_eq_true (by kernel_rfl)) (fun x r h=>rJ x.1 x.2 r h)
noncomputable def qP:=eL (ec (cJ ep) (dJ (aI .i64))) (fun x:ax×Int=>lz x.1 x.2) (fun r:Bool =>.clean (.bool r))
theorem rR (p0_0:(List al)) (p1:Int):qP none [.agg [.sl false false p0_0.length (ab aq p0_0)],.int .i64 p1]=(lz (ax.mk p0_0) p1).map fun r:Bool=>(.clean (.bool r),none):=aK _ _ _ ((ax.mk p0_0),p1)
theorem Nd (p0:ax) (p1:Int) (r:Bool) (hh:lz p0 p1=some r):aQ .clean tab aS FU Tryz.f95 none [.agg [.sl false false p0.ah.length (ab aq p0.ah)],.int .i64 p1]=some (.clean (.bool r),none):=by
 refine av rfl Tryz.ntmps95 Tryz.results95 ?_
 unfold lz at hh
 try simp only[w,seval,-Int.reduceToNat]
 refine sp bJ hh (fun _ hh =>?_) (fun _ hh =>?_)
 ·cases hh
  try simp only[w,seval,-Int.reduceToNat]
 ·cases hh
  try simp only[w,seval,-Int.reduceToNat]
theorem z6:bH Tryz.prog 95 qP:=bH.of (mode := .clean) tok bN.none mixed Tryz.func95 (by kernel_rfl) ⟨by kernel_rfl,by kernel_rfl⟩ (fun _=>Nat.le_of_ble_eq_true (by kernel_rfl)) (fun x r h=>Nd x.1 x.2 r h)
noncomputable def qR:=eL (ec (cJ ep) (dJ (iE (eI .i64)))) (fun x:ax×(List Int)=>ki x.1 x.2) (fun r:Bool =>.clean (.bool r))
theorem yb (p0_0:(List al)) (p1:(List Int)):qR none [.agg [.sl false false p0_0.length (ab aq p0_0)],.sl false false p1.length (ab (eI .i64) p1)]=(ki (ax.mk p0_0) p1).map fun r:Bool=>(.clean (.bool r),none):=aK _ _ _ ((ax.mk p0_0),p1)
noncomputable def nK:Env:=(Am.ext (Am.ext aS 39 false fF) 95 false qP)
theorem Ec:bN Tryz.prog nK:=((bN.none.add gS false).add z6 false)
theorem bh:type_of% (ai @w<|ai @cU<|ai @rR<|@nK.eq_1):=⟨@w,@cU,@rR,@nK.eq_1⟩
theorem HI (p0:ax) (p1:(List Int)) (r:Bool) (hh:ki p0 p1=some r):aQ .clean tab nK FU Tryz.f150 none [.agg [.sl false false p0.ah.length (ab aq p0.ah)],.sl false false p1.length (ab (eI .i64) p1)]=some (.clean (.bool r),none):=by
 refine av rfl Tryz.ntmps150 Tryz.results150 ?_
 unfold ki at hh
 obtain⟨r1,hr1,hh⟩:=ae hh
 try simp only[bh,seval,-Int.reduceToNat,hr1]
 obtain⟨o2,ho2,hh⟩:=ae hh
 refine bD 0 (fun s t H e=>match s with|s15j1=>∃v2j1:Nat,t 1=.sl false false p1.length (ab (eI .i64) p1)∧t 2=.ptr 2 v2j1 0∧t 15=.bool s15j1∧H 2=some ⟨v2j1,24,[.sl false false p0.ah.length (ab aq p0.ah)],false,false,false⟩) (fun s=>s=o2) ?_ ?_
 ·rintro s15j1 t H e ⟨v2j1,Zj1⟩ rfl
  try dsimp only at hh
  try simp only[bh,seval,-Int.reduceToNat,hr1,Zj1]
  refine sp aj hh (fun _ hh =>?_) (fun _ hh =>?_)
  ·cases hh
   try simp only[bh,seval,-Int.reduceToNat,hr1,Zj1]
  ·try simp only[bh,seval,-Int.reduceToNat,hr1,Zj1]
   obtain⟨o13,ho13,hh⟩:=ae hh
   refine aA (fun s t H e=>match s with|s18b=>∃v2b:Nat,t 1=.sl false false p1.length (ab (eI .i64) p1)∧t 2=.ptr 2 v2b 0∧t 16=.sl false false p1.length (ab (eI .i64) p1)∧t 17=.int .i64 (p1.length:Int)∧t 18=.int .i64 s18b∧H 2=some ⟨v2b,24,[.sl false false p0.ah.length (ab aq p0.ah)],false,false,false⟩) (fun o x t H e=>match o with|(.inl _)=>x=.exit 0|(.inr r)=>x=.ret∧gW .clean tab none [.tmp 4] ⟨t,H,e⟩=some (.clean (.bool r),none)) ho13 ?_ ?_ ?_
   ·refine⟨v2j1,?_,?_,?_,?_,?_,?_⟩
    all_goals first|rfl|(simp only[bh,seval,-Int.reduceToNat,hr1,Zj1]<;>rfl)
   ·rintro s18b t H e ⟨v2b,Zb⟩ c hh
    simp only[jV]at hh
    try simp only[bh,seval,-Int.reduceToNat,hr1,Zb]
    refine sp aj hh (fun _ hh =>?_) (fun _ hh =>?_)
    ·obtain⟨x15,hx15,hh⟩:=ae hh
     have ax15:=bG (eI .i64) hx15
     simp only[bU]at ax15
     obtain⟨r16,hr16,hh⟩:=ae hh
     try simp only[bh,seval,-Int.reduceToNat,hr1,Zb,ax15,hr16]
     refine sp aj hh (fun _ hh =>?_) (fun _ hh =>?_)
     ·cases hh
      try simp only[bh,seval,-Int.reduceToNat,hr1,Zb,ax15,hr16]
      refine yZ ⟨rfl,?_⟩
      try simp only[bh,seval,-Int.reduceToNat,hr1,Zb,ax15,hr16]
     ·try simp only[bh,seval,-Int.reduceToNat,hr1,Zb,ax15,hr16]
      refine sp aj hh (fun _ hh =>?_) (fun _ hh =>?_)
      ·obtain⟨x19,hx19,hh⟩:=ae hh
       have ax19:=bG (eI .i64) hx19
       simp only[bU]at ax19
       obtain⟨x20,hx20,hh⟩:=ae hh
       have ax20:=bG aq hx20
       simp only[bU]at ax20
       try simp only[bh,seval,-Int.reduceToNat,hr1,Zb,ax15,hr16,ax19,ax20]
       refine bI (by kernel_rfl) ?_
       try simp only[bh,seval,-Int.reduceToNat,hr1,Zb,ax15,hr16,ax19,ax20]
       refine sp bJ hh (fun _ hh =>?_) (fun _ hh =>?_)
       ·try simp only[bh,seval,-Int.reduceToNat,hr1,Zb,ax15,hr16,ax19,ax20]
        refine sp aj hh (fun _ hh =>?_) (fun _ hh =>?_)
        ·cases hh
         try simp only[bh,seval,-Int.reduceToNat,hr1,Zb,ax15,hr16,ax19,ax20]
         refine yZ ⟨rfl,?_⟩
         try simp only[bh,seval,-Int.reduceToNat,hr1,Zb,ax15,hr16,ax19,ax20]
        ·cases hh
         try simp only[bh,seval,-Int.reduceToNat,hr1,Zb,ax15,hr16,ax19,ax20]
         refine jB ?_
         refine⟨v2b,?_,?_,?_,?_,?_,?_⟩
         all_goals first|rfl|(simp only[bh,seval,-Int.reduceToNat,hr1,Zb,ax15,hr16,ax19,ax20]<;>rfl)
       ·cases hh
        try simp only[bh,seval,-Int.reduceToNat,hr1,Zb,ax15,hr16,ax19,ax20]
        refine jB ?_
        refine⟨v2b,?_,?_,?_,?_,?_,?_⟩
        all_goals first|rfl|(simp only[bh,seval,-Int.reduceToNat,hr1,Zb,ax15,hr16,ax19,ax20]<;>rfl)
      ·cases hh
       try simp only[bh,seval,-Int.reduceToNat,hr1,Zb,ax15,hr16]
       refine jB ?_
       refine⟨v2b,?_,?_,?_,?_,?_,?_⟩
       all_goals first|rfl|(simp only[bh,seval,-Int.reduceToNat,hr1,Zb,ax15,hr16]<;>rfl)
    ·cases hh
     try simp only[bh,seval,-Int.reduceToNat,hr1,Zb]
     refine kH ?_
     exact rfl
   ·rintro x t H e hx
    rcases o13 with _|rb
    ·dsimp only at hx hh
     subst hx
     cases hh
     try simp only[bh,seval,-Int.reduceToNat,hr1]
    ·dsimp only at hx hh
     obtain⟨rfl,hE⟩:=hx
     cases hh
     try simp only[bq,bj,bF,dr,dq]
     exact hE
 ·clear hh
  have hh:=ho2
  try simp only[bh,seval,-Int.reduceToNat,hr1]
  refine sp aU hh (fun _ hh =>?_) (fun _ hh =>?_)
  ·cases hh
   try simp only[bh,seval,-Int.reduceToNat,hr1]
   rw[ak]
   refine⟨_,rfl,?_⟩
   refine⟨0,?_,?_,?_,?_⟩
   all_goals first|rfl|(simp only[bh,seval,-Int.reduceToNat,hr1]<;>rfl)
  ·cases hh
   try simp only[bh,seval,-Int.reduceToNat,hr1]
   rw[ak]
   refine⟨_,rfl,?_⟩
   refine⟨0,?_,?_,?_,?_⟩
   all_goals first|rfl|(simp only[bh,seval,-Int.reduceToNat,hr1]<;>rfl)
theorem EB:bH Tryz.prog 150 qR:=bH.of (mode := .clean) tok Ec mixed Tryz.func150 (by kernel_rfl) ⟨by kernel_rfl,by kernel_rfl⟩ (fun _=>Nat.le_of_ble_eq_true (by kernel_rfl)) (fun x r h=>HI x.1 x.2 r h)
noncomputable def lY:=eL (dJ (cJ aq)) (fun x:al=>fL x) (fun r:Bool =>.clean (.bool r))
theorem mm (p0_0:ByteArray) (p0_1:Int) (p0_2:Int) (p0_3:Int) (p0_4:Int):lY none [.agg [.str p0_0,.int .i64 p0_1,.int .i64 p0_2,.int .i64 p0_3,.int .i64 p0_4]]=(fL (al.mk p0_0 p0_1 p0_2 p0_3 p0_4)).map fun r:Bool=>(.clean (.bool r),none):=aK _ _ _ ((al.mk p0_0 p0_1 p0_2 p0_3 p0_4))
theorem Er (p0:al) (r:Bool) (hh:fL p0=some r):aQ .clean tab aS FU Tryz.f123 none [.agg [.str p0.cI,.int .i64 p0.aJ,.int .i64 p0.aM,.int .i64 p0.bn,.int .i64 p0.bg]]=some (.clean (.bool r),none):=by
 refine av rfl Tryz.ntmps123 Tryz.results123 ?_
 unfold fL at hh
 cases hh
 try simp only[w,seval,-Int.reduceToNat]
theorem ud:bH Tryz.prog 123 lY:=bH.of (mode := .clean) tok bN.none mixed Tryz.func123 (by kernel_rfl) ⟨by kernel_rfl,by kernel_rfl⟩ (fun _=>Nat.le_of_ble_eq_true (by kernel_rfl)) (fun x r h=>Er x r h)
noncomputable def lZ:=eL (ec (cJ ep) (ec (aI .i64) (ec UY (ec (aI .i64) (dJ (aI .i64)))))) (fun x:ax×Int×ByteArray×Int×Int=>ij x.1 x.2.1 x.2.2.1 x.2.2.2.1 x.2.2.2.2) (fun r:Bool =>.clean (.bool r))
theorem mn (p0_0:(List al)) (p1:Int) (p2:ByteArray) (p3:Int) (p4:Int):lZ none [.agg [.sl false false p0_0.length (ab aq p0_0)],.int .i64 p1,.str p2,.int .i64 p3,.int .i64 p4]=(ij (ax.mk p0_0) p1 p2 p3 p4).map fun r:Bool=>(.clean (.bool r),none):=aK _ _ _ ((ax.mk p0_0),p1,p2,p3,p4)
noncomputable def me:Env:=(Am.ext (Am.ext aS 39 false fF) 91 false je)
theorem Cw:bN Tryz.prog me:=((bN.none.add gS false).add mY false)
theorem cY:type_of% (ai @w<|ai @cU<|ai @gT<|@me.eq_1):=⟨@w,@cU,@gT,@me.eq_1⟩
theorem Es (p0:ax) (p1:Int) (p2:ByteArray) (p3:Int) (p4:Int) (r:Bool) (hh:ij p0 p1 p2 p3 p4=some r):aQ .clean tab me FU Tryz.f84 none [.agg [.sl false false p0.ah.length (ab aq p0.ah)],.int .i64 p1,.str p2,.int .i64 p3,.int .i64 p4]=some (.clean (.bool r),none):=by
 refine av rfl Tryz.ntmps84 Tryz.results84 ?_
 unfold ij at hh
 obtain⟨r1,hr1,hh⟩:=ae hh
 try simp only[cY,seval,-Int.reduceToNat,hr1]
 obtain⟨o2,ho2,hh⟩:=ae hh
 refine bD 0 (fun s t H e=>match s with|s23j1=>∃v5j1:Nat,t 1=.int .i64 p1∧t 2=.str p2∧t 3=.int .i64 p3∧t 4=.int .i64 p4∧t 5=.ptr 5 v5j1 0∧t 23=.bool s23j1∧H 5=some ⟨v5j1,24,[.sl false false p0.ah.length (ab aq p0.ah)],false,false,false⟩) (fun s=>s=o2) ?_ ?_
 ·rintro s23j1 t H e ⟨v5j1,Zj1⟩ rfl
  try dsimp only at hh
  try simp only[cY,seval,-Int.reduceToNat,hr1,Zj1]
  refine sp aj hh (fun _ hh =>?_) (fun _ hh =>?_)
  ·cases hh
   try simp only[cY,seval,-Int.reduceToNat,hr1,Zj1]
  ·obtain⟨x4,hx4,hh⟩:=ae hh
   have ax4:=bG aq hx4
   simp only[bU]at ax4
   try simp only[cY,seval,-Int.reduceToNat,hr1,Zj1,ax4]
   refine sp bJ hh (fun _ hh =>?_) (fun _ hh =>?_)
   ·try simp only[cY,seval,-Int.reduceToNat,hr1,Zj1,ax4]
    refine sp bJ hh (fun _ hh =>?_) (fun _ hh =>?_)
    ·cases hh
     try simp only[cY,seval,-Int.reduceToNat,hr1,Zj1,ax4]
    ·cases hh
     try simp only[cY,seval,-Int.reduceToNat,hr1,Zj1,ax4]
   ·cases hh
    try simp only[cY,seval,-Int.reduceToNat,hr1,Zj1,ax4]
 ·clear hh
  have hh:=ho2
  try simp only[cY,seval,-Int.reduceToNat,hr1]
  refine sp aU hh (fun _ hh =>?_) (fun _ hh =>?_)
  ·cases hh
   try simp only[cY,seval,-Int.reduceToNat,hr1]
   rw[ak]
   refine⟨_,rfl,?_⟩
   refine⟨0,?_,?_,?_,?_,?_,?_,?_⟩
   all_goals first|rfl|(simp only[cY,seval,-Int.reduceToNat,hr1]<;>rfl)
  ·obtain⟨r8,hr8,hh⟩:=ae hh
   cases hh
   try simp only[cY,seval,-Int.reduceToNat,hr1,hr8]
   rw[ak]
   refine⟨_,rfl,?_⟩
   refine⟨0,?_,?_,?_,?_,?_,?_,?_⟩
   all_goals first|rfl|(simp only[cY,seval,-Int.reduceToNat,hr1,hr8]<;>rfl)
theorem ue:bH Tryz.prog 84 lZ:=bH.of (mode := .clean) tok Cw mixed Tryz.func84 (by kernel_rfl) ⟨by kernel_rfl,by kernel_rfl⟩ (fun _=>Nat.le_of_ble_eq_true (by kernel_rfl)) (fun x r h=>Es x.1 x.2.1 x.2.2.1 x.2.2.2.1 x.2.2.2.2 r h)
noncomputable def qO:=eL (ec (cJ ep) (ec (iE (eI .i64)) (ec (aI .i64) (ec (aI .i64) (ec UY (ec (aI .i64) (dJ (aI .i64)))))))) (fun x:ax×(List Int)×Int×Int×ByteArray×Int×Int=>kg x.1 x.2.1 x.2.2.1 x.2.2.2.1 x.2.2.2.2.1 x.2.2.2.2.2.1 x.2.2.2.2.2.2) (fun r:Bool =>.clean (.bool r))
theorem xY (p0_0:(List al)) (p1:(List Int)) (p2:Int) (p3:Int) (p4:ByteArray) (p5:Int) (p6:Int):qO none [.agg [.sl false false p0_0.length (ab aq p0_0)],.sl false false p1.length (ab (eI .i64) p1),.int .i64 p2,.int .i64 p3,.str p4,.int .i64 p5,.int .i64 p6]=(kg (ax.mk p0_0) p1 p2 p3 p4 p5 p6).map fun r:Bool=>(.clean (.bool r),none):=aK _ _ _ ((ax.mk p0_0),p1,p2,p3,p4,p5,p6)
noncomputable def nI:Env:=(Am.ext (Am.ext (Am.ext aS 84 false lZ) 123 false lY) 150 false qR)
theorem Ea:bN Tryz.prog nI:=(((bN.none.add ue false).add ud false).add EB false)
theorem e9:type_of% (ai @w<|ai @mn<|ai @mm<|ai @yb<|@nI.eq_1):=⟨@w,@mn,@mm,@yb,@nI.eq_1⟩
theorem HG (p0:ax) (p1:(List Int)) (p2:Int) (p3:Int) (p4:ByteArray) (p5:Int) (p6:Int) (r:Bool) (hh:kg p0 p1 p2 p3 p4 p5 p6=some r):aQ .clean tab nI FU Tryz.f108 none [.agg [.sl false false p0.ah.length (ab aq p0.ah)],.sl false false p1.length (ab (eI .i64) p1),.int .i64 p2,.int .i64 p3,.str p4,.int .i64 p5,.int .i64 p6]=some (.clean (.bool r),none):=by
 refine av rfl Tryz.ntmps108 Tryz.results108 ?_
 unfold kg at hh
 obtain⟨r1,hr1,hh⟩:=ae hh
 try simp only[e9,seval,-Int.reduceToNat,hr1]
 refine sp aj hh (fun _ hh =>?_) (fun _ hh =>?_)
 ·cases hh
  try simp only[e9,seval,-Int.reduceToNat,hr1]
 ·obtain⟨x3,hx3,hh⟩:=ae hh
  have ax3:=bG (eI .i64) hx3
  simp only[bU]at ax3
  obtain⟨x4,hx4,hh⟩:=ae hh
  have ax4:=bG aq hx4
  simp only[bU]at ax4
  obtain⟨x5,hx5,hh⟩:=ae hh
  have ax5:=bG (eI .i64) hx5
  simp only[bU]at ax5
  try simp only[e9,seval,-Int.reduceToNat,hr1,ax3,ax4,ax5]
  refine bI (by kernel_rfl) ?_
  try simp only[e9,seval,-Int.reduceToNat,hr1,ax3,ax4,ax5]
  refine sp bJ hh (fun _ hh =>?_) (fun _ hh =>?_)
  ·try simp only[e9,seval,-Int.reduceToNat,hr1,ax3,ax4,ax5]
   refine sp bJ hh (fun _ hh =>?_) (fun _ hh =>?_)
   ·obtain⟨x8,hx8,hh⟩:=ae hh
    have ax8:=bG aq hx8
    simp only[bU]at ax8
    obtain⟨r9,hr9,hh⟩:=ae hh
    try simp only[e9,seval,-Int.reduceToNat,hr1,ax3,ax4,ax5,ax8,hr9]
    refine sp bJ hh (fun _ hh =>?_) (fun _ hh =>?_)
    ·obtain⟨r11,hr11,hh⟩:=ae hh
     cases hh
     try simp only[e9,seval,-Int.reduceToNat,hr1,ax3,ax4,ax5,ax8,hr9,hr11]
    ·cases hh
     try simp only[e9,seval,-Int.reduceToNat,hr1,ax3,ax4,ax5,ax8,hr9]
   ·cases hh
    try simp only[e9,seval,-Int.reduceToNat,hr1,ax3,ax4,ax5]
  ·cases hh
   try simp only[e9,seval,-Int.reduceToNat,hr1,ax3,ax4,ax5]
theorem Ez:bH Tryz.prog 108 qO:=bH.of (mode := .clean) tok Ea mixed Tryz.func108 (by kernel_rfl) ⟨by kernel_rfl,by kernel_rfl⟩ (fun _=>Nat.le_of_ble_eq_true (by kernel_rfl)) (fun x r h=>HG x.1 x.2.1 x.2.2.1 x.2.2.2.1 x.2.2.2.2.1 x.2.2.2.2.2.1 x.2.2.2.2.2.2 r h)
noncomputable def jD:=eL (ec (cJ A4) (dJ (cJ bZ))) (fun x:kc×aN=>ey x.1 x.2) (fun r:Bool =>.clean (.bool r))
theorem nk (p0_0:(List al)) (p0_1:Int) (p0_2:Int) (p0_3:Int) (p1_0:Int) (p1_1:(List Int)) (p1_2:ByteArray) (p1_3:Int) (p1_4:Int):jD none [.agg [.sl false false p0_0.length (ab aq p0_0),.int .i64 p0_1,.int .i64 p0_2,.int .i64 p0_3],.agg [.int .i64 p1_0,.sl false false p1_1.length (ab (eI .i64) p1_1),.str p1_2,.int .i64 p1_3,.int .i64 p1_4]]=(ey (kc.mk (ax.mk p0_0) p0_1 p0_2 p0_3) (aN.mk p1_0 p1_1 p1_2 p1_3 p1_4)).map fun r:Bool=>(.clean (.bool r),none):=aK _ _ _ ((kc.mk (ax.mk p0_0) p0_1 p0_2 p0_3),(aN.mk p1_0 p1_1 p1_2 p1_3 p1_4))
noncomputable def gN:Env:=(Am.ext aS 108 false qO)
theorem tO:bN Tryz.prog gN:=(bN.none.add Ez false)
theorem cc:type_of% (ai @w<|ai @xY<|@gN.eq_1):=⟨@w,@xY,@gN.eq_1⟩
theorem vC (p0:kc) (p1:aN) (r:Bool) (hh:ey p0 p1=some r):aQ .clean tab gN FU Tryz.f73 none [.agg [.sl false false p0.Vk.ah.length (ab aq p0.Vk.ah),.int .i64 p0.yQ,.int .i64 p0.uM,.int .i64 p0.uL],.agg [.int .i64 p1.ct,.sl false false p1.dO.length (ab (eI .i64) p1.dO),.str p1.cI,.int .i64 p1.aJ,.int .i64 p1.aM]]=some (.clean (.bool r),none):=by
 refine av rfl Tryz.ntmps73 Tryz.results73 ?_
 unfold ey at hh
 try simp only[cc,seval,-Int.reduceToNat]
 refine sp mq hh (fun _ hh =>?_) (fun _ hh =>?_)
 ·obtain⟨x2,hx2,hh⟩:=ae hh
  have ax2:=bG (eI .i64) hx2
  simp only[bU]at ax2
  try simp only[cc,seval,-Int.reduceToNat,ax2]
  refine sp mq hh (fun _ hh =>?_) (fun _ hh =>?_)
  ·obtain⟨x4,hx4,hh⟩:=ae hh
   have ax4:=bG (eI .i64) hx4
   simp only[bU]at ax4
   try simp only[cc,seval,-Int.reduceToNat,ax2,ax4]
   refine sp mq hh (fun _ hh =>?_) (fun _ hh =>?_)
   ·obtain⟨r6,hr6,hh⟩:=ae hh
    try simp only[cc,seval,-Int.reduceToNat,ax2,ax4,hr6]
    refine bI (by kernel_rfl) ?_
    cases hh
    try simp only[cc,seval,-Int.reduceToNat,ax2,ax4,hr6]
   ·try simp only[cc,seval,-Int.reduceToNat,ax2,ax4]
    refine bI (by kernel_rfl) ?_
    cases hh
    try simp only[cc,seval,-Int.reduceToNat,ax2,ax4]
  ·try simp only[cc,seval,-Int.reduceToNat,ax2]
   refine bI (by kernel_rfl) ?_
   cases hh
   try simp only[cc,seval,-Int.reduceToNat,ax2]
 ·try simp only[cc,seval,-Int.reduceToNat]
  refine bI (by kernel_rfl) ?_
  cases hh
  try simp only[cc,seval,-Int.reduceToNat]
theorem tZ:bH Tryz.prog 73 jD:=bH.of (mode := .clean) tok tO mixed Tryz.func73 (by kernel_rfl) ⟨by kernel_rfl,by kernel_rfl⟩ (fun _=>Nat.le_of_ble_eq_true (by kernel_rfl)) (fun x r h=>vC x.1 x.2 r h)
noncomputable def Bg:=eL (dJ (aI .i64)) (fun x:Int=>tl x) (fun r:an =>.clean (.agg [.int .i64 r.ag,.sl false false r.aa.length (ab (eI .i64) r.aa)]))
theorem Lg (p0:Int):Bg none [.int .i64 p0]=(tl p0).map fun r:an=>(.clean (.agg [.int .i64 r.ag,.sl false false r.aa.length (ab (eI .i64) r.aa)]),none):=aK _ _ _ (p0)
noncomputable def xI:Env:=(Am.ext aS 126 false gi)
theorem Qw:bN Tryz.prog xI:=(bN.none.add iP false)
theorem gI:type_of% (ai @w<|ai @dV<|@xI.eq_1):=⟨@w,@dV,@xI.eq_1⟩
theorem Tj (p0:Int) (r:an) (hh:tl p0=some r):aQ .clean tab xI FU Tryz.f109 none [.int .i64 p0]=some (.clean (.agg [.int .i64 r.ag,.sl false false r.aa.length (ab (eI .i64) r.aa)]),none):=by
 refine av rfl Tryz.ntmps109 Tryz.results109 ?_
 unfold tl at hh
 try simp only[gI,seval,-Int.reduceToNat]
 obtain⟨o1,ho1,hh⟩:=ae hh
 refine iK 0 (fun s t H e=>match s with|(s3j1,s4j1)=>∃v2j1:Nat,t 2=.ptr 2 v2j1 0∧t 3=.int .i64 s3j1∧t 4=.int .u64 s4j1∧H 2=some ⟨v2j1,49,[.int .i64 0,.sl true true 0 []],false,false,false⟩) (fun s=>s=o1) ?_ ?_
 ·rintro⟨s3j1,s4j1⟩ t H e ⟨v2j1,Zj1⟩ rfl
  try dsimp only at hh
  try simp only[gI,seval,-Int.reduceToNat,Zj1]
  obtain⟨o7,ho7,hh⟩:=ae hh
  refine aA (fun s t H e=>match s with|(s4b,l5b)=>∃v2b:Nat,∃v5b:Nat,t 2=.ptr 2 v2b 0∧t 3=.int .i64 s3j1∧t 4=.int .u64 s4b∧t 5=.buf 5 v5b 1 0 (l5b).length∧H 2=some ⟨v2b,49,[.int .i64 0,.sl true true 0 []],false,false,false⟩∧H 5=some ⟨v5b,3,ab (eI .i64) l5b,false,true,false⟩) (fun o x t H e=>match o with|l5bx=>x=.exit 0∧∃v2bx:Nat,∃v5bx:Nat,t 2=.ptr 2 v2bx 0∧t 3=.int .i64 s3j1∧t 5=.buf 5 v5bx 1 0 (l5bx).length∧H 2=some ⟨v2bx,49,[.int .i64 0,.sl true true 0 []],false,false,false⟩∧H 5=some ⟨v5bx,3,ab (eI .i64) l5bx,false,true,false⟩) ho7 ?_ ?_ ?_
  ·refine⟨v2j1,e,?_,?_,?_,?_,?_,?_⟩
   all_goals first|rfl|(simp only[gI,seval,-Int.reduceToNat,Zj1]<;>rfl)
  ·rintro⟨s4b,l5b⟩ t H e ⟨v2b,v5b,Zb⟩ c hh
   simp only[uE]at hh
   try simp only[gI,seval,-Int.reduceToNat,Zb]
   refine sp aj hh (fun _ hh =>?_) (fun _ hh =>?_)
   ·obtain⟨x9,hx9,hh⟩:=ae hh
    obtain⟨q10a,q10b,q10c,q10d⟩:=fi (eI .i64) hx9
    simp only[bU]at q10b
    obtain⟨x11,hx11,hh⟩:=ae hh
    have q12:=n9 hx11
    cases hh
    try simp only[gI,seval,-Int.reduceToNat,Zb,q10a,q10b,q10c,q10d,q12]
    refine jB ?_
    refine⟨v2b,e+1,?_,?_,?_,?_,?_,?_⟩
    all_goals first|rfl|(simp only[gI,seval,-Int.reduceToNat,Zb,q10a,q10b,q10c,q10d,q12]<;>rfl)
   ·cases hh
    try simp only[gI,seval,-Int.reduceToNat,Zb]
    refine kH ?_
    refine⟨rfl,⟨v2b,v5b,?_,?_,?_,?_,?_⟩⟩
    all_goals first|rfl|(simp only[gI,seval,-Int.reduceToNat,Zb]<;>rfl)
  ·rintro x t H e hx
   obtain⟨l5bx,rfl⟩:∃z,z=o7:=⟨_,rfl⟩
   dsimp only at hx hh
   obtain⟨rfl,⟨v2bx,v5bx,Zbx⟩⟩:=hx
   obtain⟨r13,hr13,hh⟩:=ae hh
   cases hh
   try simp only[gI,seval,-Int.reduceToNat,Zbx,hr13]
 ·clear hh
  have hh:=ho1
  try simp only[gI,seval,-Int.reduceToNat]
  refine sp aj hh (fun _ hh =>?_) (fun _ hh =>?_)
  ·cases hh
   try simp only[gI,seval,-Int.reduceToNat]
   rw[ak]
   refine⟨_,rfl,?_⟩
   refine⟨0,?_,?_,?_,?_⟩
   all_goals first|rfl|(simp only[gI,seval,-Int.reduceToNat]<;>rfl)
  ·cases hh
   try simp only[gI,seval,-Int.reduceToNat]
   rw[ak]
   refine⟨_,rfl,?_⟩
   refine⟨0,?_,?_,?_,?_⟩
   all_goals first|rfl|(simp only[gI,seval,-Int.reduceToNat]<;>rfl)
theorem Q0:bH Tryz.prog 109 Bg:=bH.of (mode := .clean) tok Qw mixed Tryz.func109 (by kernel_rfl) ⟨by kernel_rfl,by kernel_rfl⟩ (fun _=>Nat.le_of_ble_eq_true (by kernel_rfl)) (fun x r h=>Tj x r h)
noncomputable def wB:=eL (dJ (aI .i64)) (fun x:Int=>oI x) (fun r:aF =>.clean (.agg [.int .i64 r.bx.ag,.sl false false r.bx.aa.length (ab (eI .i64) r.bx.aa),.int .i64 r.bt.ag,.sl false false r.bt.aa.length (ab (eI .i64) r.bt.aa)]))
theorem Dd (p0:Int):wB none [.int .i64 p0]=(oI p0).map fun r:aF=>(.clean (.agg [.int .i64 r.bx.ag,.sl false false r.bx.aa.length (ab (eI .i64) r.bx.aa),.int .i64 r.bt.ag,.sl false false r.bt.aa.length (ab (eI .i64) r.bt.aa)]),none):=aK _ _ _ (p0)
noncomputable def rq:Env:=(Am.ext aS 109 false Bg)
theorem JM:bN Tryz.prog rq:=(bN.none.add Q0 false)
theorem N6:type_of% (ai @w<|ai @Lg<|@rq.eq_1):=⟨@w,@Lg,@rq.eq_1⟩
theorem MY (p0:Int) (r:aF) (hh:oI p0=some r):aQ .clean tab rq FU Tryz.f74 none [.int .i64 p0]=some (.clean (.agg [.int .i64 r.bx.ag,.sl false false r.bx.aa.length (ab (eI .i64) r.bx.aa),.int .i64 r.bt.ag,.sl false false r.bt.aa.length (ab (eI .i64) r.bt.aa)]),none):=by
 refine av rfl Tryz.ntmps74 Tryz.results74 ?_
 unfold oI at hh
 obtain⟨r1,hr1,hh⟩:=ae hh
 obtain⟨r2,hr2,hh⟩:=ae hh
 cases hh
 try simp only[N6,seval,-Int.reduceToNat,hr1,hr2]
theorem K3:bH Tryz.prog 74 wB:=bH.of (mode := .clean) tok JM mixed Tryz.func74 (by kernel_rfl) ⟨by kernel_rfl,by kernel_rfl⟩ (fun _=>Nat.le_of_ble_eq_true (by kernel_rfl)) (fun x r h=>MY x r h)
noncomputable def qM:=eL (ec (cJ fc) (dJ (cJ kd))) (fun x:bK×aF=>iJ x.1 x.2) (fun r:Bool =>.clean (.bool r))
theorem rQ (p0_0:Int) (p0_1:(List Int)) (p0_2:Int) (p0_3:(List Int)) (p0_4:Int) (p0_5:(List Int)) (p0_6:Int) (p0_7:(List Int)) (p1_0:Int) (p1_1:(List Int)) (p1_2:Int) (p1_3:(List Int)):qM none [.agg [.int .i64 p0_0,.sl false false p0_1.length (ab (eI .i64) p0_1),.int .i64 p0_2,.sl false false p0_3.length (ab (eI .i64) p0_3),.int .i64 p0_4,.sl false false p0_5.length (ab (eI .i64) p0_5),.int .i64 p0_6,.sl false false p0_7.length (ab (eI .i64) p0_7)],.agg [.int .i64 p1_0,.sl false false p1_1.length (ab (eI .i64) p1_1),.int .i64 p1_2,.sl false false p1_3.length (ab (eI .i64) p1_3)]]=(iJ (bK.mk (aF.mk (an.mk p0_0 p0_1) (an.mk p0_2 p0_3)) (aF.mk (an.mk p0_4 p0_5) (an.mk p0_6 p0_7))) (aF.mk (an.mk p1_0 p1_1) (an.mk p1_2 p1_3))).map fun r:Bool=>(.clean (.bool r),none):=aK _ _ _ ((bK.mk (aF.mk (an.mk p0_0 p0_1) (an.mk p0_2 p0_3)) (aF.mk (an.mk p0_4 p0_5) (an.mk p0_6 p0_7))),(aF.mk (an.mk p1_0 p1_1) (an.mk p1_2 p1_3)))
noncomputable def rG:Env:=(Am.ext (Am.ext (Am.ext aS 30 false jr) 57 false jq) 58 false kJ)
theorem JW:bN Tryz.prog rG:=(((bN.none.add mh false).add mg false).add sD false)
theorem km:type_of% (ai @w<|ai @gz<|ai @gw<|ai @lj<|@rG.eq_1):=⟨@w,@gz,@gw,@lj,@rG.eq_1⟩
theorem Nc (p0:bK) (p1:aF) (r:Bool) (hh:iJ p0 p1=some r):aQ .clean tab rG FU Tryz.f31 none [.agg [.int .i64 p0.aH.bx.ag,.sl false false p0.aH.bx.aa.length (ab (eI .i64) p0.aH.bx.aa),.int .i64 p0.aH.bt.ag,.sl false false p0.aH.bt.aa.length (ab (eI .i64) p0.aH.bt.aa),.int .i64 p0.az.bx.ag,.sl false false p0.az.bx.aa.length (ab (eI .i64) p0.az.bx.aa),.int .i64 p0.az.bt.ag,.sl false false p0.az.bt.aa.length (ab (eI .i64) p0.az.bt.aa)],.agg [.int .i64 p1.bx.ag,.sl false false p1.bx.aa.length (ab (eI .i64) p1.bx.aa),.int .i64 p1.bt.ag,.sl false false p1.bt.aa.length (ab (eI .i64) p1.bt.aa)]]=some (.clean (.bool r),none):=by
 refine av rfl Tryz.ntmps31 Tryz.results31 ?_
 unfold iJ at hh
 obtain⟨r1,hr1,hh⟩:=ae hh
 try simp only[km,seval,-Int.reduceToNat,hr1]
 refine sp bJ hh (fun _ hh =>?_) (fun _ hh =>?_)
 ·obtain⟨r3,hr3,hh⟩:=ae hh
  try simp only[km,seval,-Int.reduceToNat,hr1,hr3]
  refine sp bJ hh (fun _ hh =>?_) (fun _ hh =>?_)
  ·obtain⟨r5,hr5,hh⟩:=ae hh
   try simp only[km,seval,-Int.reduceToNat,hr1,hr3,hr5]
   refine sp bJ hh (fun _ hh =>?_) (fun _ hh =>?_)
   ·obtain⟨r7,hr7,hh⟩:=ae hh
    cases hh
    try simp only[km,seval,-Int.reduceToNat,hr1,hr3,hr5,hr7]
   ·cases hh
    try simp only[km,seval,-Int.reduceToNat,hr1,hr3,hr5]
  ·cases hh
   try simp only[km,seval,-Int.reduceToNat,hr1,hr3]
 ·cases hh
  try simp only[km,seval,-Int.reduceToNat,hr1]
theorem zZ:bH Tryz.prog 31 qM:=bH.of (mode := .clean) tok JW mixed Tryz.func31 (by kernel_rfl) ⟨by kernel_rfl,by kernel_rfl⟩ (fun _=>Nat.le_of_ble_eq_true (by kernel_rfl)) (fun x r h=>Nc x.1 x.2 r h)
noncomputable def ir:=eL (ec (cJ bd) (ec (RU (eI .i64)) (dJ (RU kd)))) (fun x:aB×Int×aF=>ef x.1 x.2.1 x.2.2) (fun r:Bool =>.clean (.bool r))
theorem lh (p0_0:Int) (p0_1:Int) (p0_2:(List Int)) (p0_3:Int) (p0_4:(List Int)) (p0_5:Int) (p0_6:(List Int)) (p0_7:Int) (p0_8:(List Int)) (p1:Int) (p2_0:Int) (p2_1:(List Int)) (p2_2:Int) (p2_3:(List Int)):ir none [.agg [.int .i64 p0_0,.int .i64 p0_1,.sl false false p0_2.length (ab (eI .i64) p0_2),.int .i64 p0_3,.sl false false p0_4.length (ab (eI .i64) p0_4),.int .i64 p0_5,.sl false false p0_6.length (ab (eI .i64) p0_6),.int .i64 p0_7,.sl false false p0_8.length (ab (eI .i64) p0_8)],.ip [.int .i64 p1],.ip [.int .i64 p2_0,.sl false false p2_1.length (ab (eI .i64) p2_1),.int .i64 p2_2,.sl false false p2_3.length (ab (eI .i64) p2_3)]]=(ef (aB.mk p0_0 (bK.mk (aF.mk (an.mk p0_1 p0_2) (an.mk p0_3 p0_4)) (aF.mk (an.mk p0_5 p0_6) (an.mk p0_7 p0_8)))) p1 (aF.mk (an.mk p2_0 p2_1) (an.mk p2_2 p2_3))).map fun r:Bool=>(.clean (.bool r),none):=aK _ _ _ ((aB.mk p0_0 (bK.mk (aF.mk (an.mk p0_1 p0_2) (an.mk p0_3 p0_4)) (aF.mk (an.mk p0_5 p0_6) (an.mk p0_7 p0_8)))),p1,(aF.mk (an.mk p2_0 p2_1) (an.mk p2_2 p2_3)))
noncomputable def fC:Env:=(Am.ext aS 31 false qM)
theorem qn:bN Tryz.prog fC:=(bN.none.add zZ false)
theorem iB:type_of% (ai @w<|ai @rQ<|@fC.eq_1):=⟨@w,@rQ,@fC.eq_1⟩
theorem rK (p0:aB) (p1:Int) (p2:aF) (r:Bool) (hh:ef p0 p1 p2=some r):aQ .clean tab fC FU Tryz.f75 none [.agg [.int .i64 p0.ct,.int .i64 p0.bP.aH.bx.ag,.sl false false p0.bP.aH.bx.aa.length (ab (eI .i64) p0.bP.aH.bx.aa),.int .i64 p0.bP.aH.bt.ag,.sl false false p0.bP.aH.bt.aa.length (ab (eI .i64) p0.bP.aH.bt.aa),.int .i64 p0.bP.az.bx.ag,.sl false false p0.bP.az.bx.aa.length (ab (eI .i64) p0.bP.az.bx.aa),.int .i64 p0.bP.az.bt.ag,.sl false false p0.bP.az.bt.aa.length (ab (eI .i64) p0.bP.az.bt.aa)],.ip [.int .i64 p1],.ip [.int .i64 p2.bx.ag,.sl false false p2.bx.aa.length (ab (eI .i64) p2.bx.aa),.int .i64 p2.bt.ag,.sl false false p2.bt.aa.length (ab (eI .i64) p2.bt.aa)]]=some (.clean (.bool r),none):=by
 refine av rfl Tryz.ntmps75 Tryz.results75 ?_
 unfold ef at hh
 try simp only[iB,seval,-Int.reduceToNat]
 refine sp bJ hh (fun _ hh =>?_) (fun _ hh =>?_)
 ·obtain⟨r2,hr2,hh⟩:=ae hh
  cases hh
  try simp only[iB,seval,-Int.reduceToNat,hr2]
 ·cases hh
  try simp only[iB,seval,-Int.reduceToNat]
theorem qz:bH Tryz.prog 75 ir:=bH.of (mode := .clean) tok qn mixed Tryz.func75 (by kernel_rfl) ⟨by kernel_rfl,by kernel_rfl⟩ (fun _=>Nat.le_of_ble_eq_true (by kernel_rfl)) (fun x r h=>rK x.1 x.2.1 x.2.2 r h)
noncomputable def cO:=eL (ec (iE bZ) (dJ (RS 72 0 (dJ (RU (eI .i64)))))) (fun x:(List aN)×(Int)=>a7 x.1 x.2) (fun r:Int =>.clean (.int .i64 r))
theorem eC (p0:(List aN)) (p1c0:Int):cO none [.sl false false p0.length (ab bZ p0),.clo 72 0 [.ip [.int .i64 p1c0]]]=(a7 p0 p1c0).map fun r:Int=>(.clean (.int .i64 r),none):=aK _ _ _ (p0,(p1c0))
noncomputable def cg:Env:=(Am.ext aS 72 false im)
theorem gY:bN Tryz.prog cg:=(bN.none.add qy false)
theorem aE:type_of% (ai @w<|ai @lf<|@cg.eq_1):=⟨@w,@lf,@cg.eq_1⟩
theorem iy (p0:(List aN)) (p1c0:Int) (r:Int) (hh:a7 p0 p1c0=some r):aQ .clean tab cg FU Tryz.f71 none [.sl false false p0.length (ab bZ p0),.clo 72 0 [.ip [.int .i64 p1c0]]]=some (.clean (.int .i64 r),none):=by
 refine av rfl Tryz.ntmps71 Tryz.results71 ?_
 unfold a7 at hh
 try simp only[aE,seval,-Int.reduceToNat]
 obtain⟨o5,ho5,hh⟩:=ae hh
 refine aA (fun s t H e=>match s with|s8a=>t 0=.sl false false p0.length (ab bZ p0)∧t 1=.clo 72 0 [.ip [.int .i64 p1c0]]∧t 7=.int .i64 (p0.length:Int)∧t 8=.int .i64 s8a) (fun o x t H e=>match o with|(.inl _)=>x=.exit 0|(.inr r)=>x=.ret∧gW .clean tab none [.tmp 4] ⟨t,H,e⟩=some (.clean (.int .i64 r),none)) ho5 ?_ ?_ ?_
 ·refine⟨?_,?_,?_,?_⟩
  all_goals first|rfl|(simp only[aE,seval,-Int.reduceToNat]<;>rfl)
 ·rintro s8a t H e Za c hh
  simp only[ca]at hh
  try simp only[aE,seval,-Int.reduceToNat,Za]
  refine sp aj hh (fun _ hh =>?_) (fun _ hh =>?_)
  ·obtain⟨x7,hx7,hh⟩:=ae hh
   have ax7:=bG bZ hx7
   simp only[bU]at ax7
   obtain⟨r8,hr8,hh⟩:=ae hh
   try simp only[aE,seval,-Int.reduceToNat,Za,ax7,hr8]
   refine sp aj hh (fun _ hh =>?_) (fun _ hh =>?_)
   ·cases hh
    try simp only[aE,seval,-Int.reduceToNat,Za,ax7,hr8]
    refine yZ ⟨rfl,?_⟩
    try simp only[aE,seval,-Int.reduceToNat,Za,ax7,hr8]
   ·cases hh
    try simp only[aE,seval,-Int.reduceToNat,Za,ax7,hr8]
    refine jB ?_
    refine⟨?_,?_,?_,?_⟩
    all_goals first|rfl|(simp only[aE,seval,-Int.reduceToNat,Za,ax7,hr8]<;>rfl)
  ·cases hh
   try simp only[aE,seval,-Int.reduceToNat,Za]
   refine kH ?_
   exact rfl
 ·rintro x t H e hx
  rcases o5 with _|ra
  ·dsimp only at hx hh
   subst hx
   cases hh
   try simp only[aE,seval,-Int.reduceToNat]
  ·dsimp only at hx hh
   obtain⟨rfl,hE⟩:=hx
   cases hh
   try simp only[bq,bj,bF,dr,dq]
   exact hE
theorem hZ:bH Tryz.prog 71 cO:=bH.of (mode := .clean) tok gY mixed Tryz.func71 (by kernel_rfl) ⟨by kernel_rfl,by kernel_rfl⟩ (fun _=>Nat.le_of_ble_eq_true (by kernel_rfl)) (fun x r h=>iy x.1 x.2 r h)
noncomputable def dj:=eL (ec (iE bd) (dJ (RS 75 0 (ec (RU (eI .i64)) (dJ (RU kd)))))) (fun x:(List aB)×(Int×aF)=>bE x.1 x.2.1 x.2.2) (fun r:Int =>.clean (.int .i64 r))
theorem eV (p0:(List aB)) (p1c0:Int) (p1c1_0:Int) (p1c1_1:(List Int)) (p1c1_2:Int) (p1c1_3:(List Int)):dj none [.sl false false p0.length (ab bd p0),.clo 75 0 [.ip [.int .i64 p1c0],.ip [.int .i64 p1c1_0,.sl false false p1c1_1.length (ab (eI .i64) p1c1_1),.int .i64 p1c1_2,.sl false false p1c1_3.length (ab (eI .i64) p1c1_3)]]]=(bE p0 p1c0 (aF.mk (an.mk p1c1_0 p1c1_1) (an.mk p1c1_2 p1c1_3))).map fun r:Int=>(.clean (.int .i64 r),none):=aK _ _ _ (p0,(p1c0,(aF.mk (an.mk p1c1_0 p1c1_1) (an.mk p1c1_2 p1c1_3))))
noncomputable def cr:Env:=(Am.ext aS 75 false ir)
theorem iV:bN Tryz.prog cr:=(bN.none.add qz false)
theorem aL:type_of% (ai @w<|ai @lh<|@cr.eq_1):=⟨@w,@lh,@cr.eq_1⟩
theorem jc (p0:(List aB)) (p1c0:Int) (p1c1:aF) (r:Int) (hh:bE p0 p1c0 p1c1=some r):aQ .clean tab cr FU Tryz.f68 none [.sl false false p0.length (ab bd p0),.clo 75 0 [.ip [.int .i64 p1c0],.ip [.int .i64 p1c1.bx.ag,.sl false false p1c1.bx.aa.length (ab (eI .i64) p1c1.bx.aa),.int .i64 p1c1.bt.ag,.sl false false p1c1.bt.aa.length (ab (eI .i64) p1c1.bt.aa)]]]=some (.clean (.int .i64 r),none):=by
 refine av rfl Tryz.ntmps68 Tryz.results68 ?_
 unfold bE at hh
 try simp only[aL,seval,-Int.reduceToNat]
 obtain⟨o5,ho5,hh⟩:=ae hh
 refine aA (fun s t H e=>match s with|s8a=>t 0=.sl false false p0.length (ab bd p0)∧t 1=.clo 75 0 [.ip [.int .i64 p1c0],.ip [.int .i64 p1c1.bx.ag,.sl false false p1c1.bx.aa.length (ab (eI .i64) p1c1.bx.aa),.int .i64 p1c1.bt.ag,.sl false false p1c1.bt.aa.length (ab (eI .i64) p1c1.bt.aa)]]∧t 7=.int .i64 (p0.length:Int)∧t 8=.int .i64 s8a) (fun o x t H e=>match o with|(.inl _)=>x=.exit 0|(.inr r)=>x=.ret∧gW .clean tab none [.tmp 4] ⟨t,H,e⟩=some (.clean (.int .i64 r),none)) ho5 ?_ ?_ ?_
 ·refine⟨?_,?_,?_,?_⟩
  all_goals first|rfl|(simp only[aL,seval,-Int.reduceToNat]<;>rfl)
 ·rintro s8a t H e Za c hh
  simp only[cm]at hh
  try simp only[aL,seval,-Int.reduceToNat,Za]
  refine sp aj hh (fun _ hh =>?_) (fun _ hh =>?_)
  ·obtain⟨x7,hx7,hh⟩:=ae hh
   have ax7:=bG bd hx7
   simp only[bU]at ax7
   obtain⟨r8,hr8,hh⟩:=ae hh
   try simp only[aL,seval,-Int.reduceToNat,Za,ax7,hr8]
   refine sp aj hh (fun _ hh =>?_) (fun _ hh =>?_)
   ·cases hh
    try simp only[aL,seval,-Int.reduceToNat,Za,ax7,hr8]
    refine yZ ⟨rfl,?_⟩
    try simp only[aL,seval,-Int.reduceToNat,Za,ax7,hr8]
   ·cases hh
    try simp only[aL,seval,-Int.reduceToNat,Za,ax7,hr8]
    refine jB ?_
    refine⟨?_,?_,?_,?_⟩
    all_goals first|rfl|(simp only[aL,seval,-Int.reduceToNat,Za,ax7,hr8]<;>rfl)
  ·cases hh
   try simp only[aL,seval,-Int.reduceToNat,Za]
   refine kH ?_
   exact rfl
 ·rintro x t H e hx
  rcases o5 with _|ra
  ·dsimp only at hx hh
   subst hx
   cases hh
   try simp only[aL,seval,-Int.reduceToNat]
  ·dsimp only at hx hh
   obtain⟨rfl,hE⟩:=hx
   cases hh
   try simp only[bq,bj,bF,dr,dq]
   exact hE
theorem iW:bH Tryz.prog 68 dj:=bH.of (mode := .clean) tok iV mixed Tryz.func68 (by kernel_rfl) ⟨by kernel_rfl,by kernel_rfl⟩ (fun _=>Nat.le_of_ble_eq_true (by kernel_rfl)) (fun x r h=>jc x.1 x.2.1 x.2.2 r h)
noncomputable def cN:=eL (ec (iE bd) (dJ (RS 75 0 (ec (RU (eI .i64)) (dJ (RU kd)))))) (fun x:(List aB)×(Int×aF)=>a6 x.1 x.2.1 x.2.2) (fun r:Bool =>.clean (.bool r))
theorem eB (p0:(List aB)) (p1c0:Int) (p1c1_0:Int) (p1c1_1:(List Int)) (p1c1_2:Int) (p1c1_3:(List Int)):cN none [.sl false false p0.length (ab bd p0),.clo 75 0 [.ip [.int .i64 p1c0],.ip [.int .i64 p1c1_0,.sl false false p1c1_1.length (ab (eI .i64) p1c1_1),.int .i64 p1c1_2,.sl false false p1c1_3.length (ab (eI .i64) p1c1_3)]]]=(a6 p0 p1c0 (aF.mk (an.mk p1c1_0 p1c1_1) (an.mk p1c1_2 p1c1_3))).map fun r:Bool=>(.clean (.bool r),none):=aK _ _ _ (p0,(p1c0,(aF.mk (an.mk p1c1_0 p1c1_1) (an.mk p1c1_2 p1c1_3))))
noncomputable def cf:Env:=(Am.ext aS 68 false dj)
theorem gX:bN Tryz.prog cf:=(bN.none.add iW false)
theorem iC:type_of% (ai @w<|ai @eV<|@cf.eq_1):=⟨@w,@eV,@cf.eq_1⟩
theorem iw (p0:(List aB)) (p1c0:Int) (p1c1:aF) (r:Bool) (hh:a6 p0 p1c0 p1c1=some r):aQ .clean tab cf FU Tryz.f40 none [.sl false false p0.length (ab bd p0),.clo 75 0 [.ip [.int .i64 p1c0],.ip [.int .i64 p1c1.bx.ag,.sl false false p1c1.bx.aa.length (ab (eI .i64) p1c1.bx.aa),.int .i64 p1c1.bt.ag,.sl false false p1c1.bt.aa.length (ab (eI .i64) p1c1.bt.aa)]]]=some (.clean (.bool r),none):=by
 refine av rfl Tryz.ntmps40 Tryz.results40 ?_
 unfold a6 at hh
 obtain⟨r1,hr1,hh⟩:=ae hh
 cases hh
 try simp only[iC,seval,-Int.reduceToNat,hr1]
theorem gZ:bH Tryz.prog 40 cN:=bH.of (mode := .clean) tok gX mixed Tryz.func40 (by kernel_rfl) ⟨by kernel_rfl,by kernel_rfl⟩ (fun _=>Nat.le_of_ble_eq_true (by kernel_rfl)) (fun x r h=>iw x.1 x.2.1 x.2.2 r h)
noncomputable def jd:=eL (ec (cJ A4) (ec (aI .i64) (ec (iE bZ) (dJ (iE bd))))) (fun x:kc×Int×(List aN)×(List aB)=>dY x.1 x.2.1 x.2.2.1 x.2.2.2) (fun r:Int =>.clean (.int .i64 r))
theorem mF (p0_0:(List al)) (p0_1:Int) (p0_2:Int) (p0_3:Int) (p1:Int) (p2:(List aN)) (p3:(List aB)):jd none [.agg [.sl false false p0_0.length (ab aq p0_0),.int .i64 p0_1,.int .i64 p0_2,.int .i64 p0_3],.int .i64 p1,.sl false false p2.length (ab bZ p2),.sl false false p3.length (ab bd p3)]=(dY (kc.mk (ax.mk p0_0) p0_1 p0_2 p0_3) p1 p2 p3).map fun r:Int=>(.clean (.int .i64 r),none):=aK _ _ _ ((kc.mk (ax.mk p0_0) p0_1 p0_2 p0_3),p1,p2,p3)
noncomputable def gr:Env:=(Am.ext (Am.ext (Am.ext (Am.ext aS 40 false cN) 71 false cO) 73 false jD) 74 false wB)
theorem sT:bN Tryz.prog gr:=((((bN.none.add gZ false).add hZ false).add tZ false).add K3 false)
theorem cL:type_of% (ai @w<|ai @eB<|ai @eC<|ai @nk<|ai @Dd<|@gr.eq_1):=⟨@w,@eB,@eC,@nk,@Dd,@gr.eq_1⟩
theorem tW (p0:kc) (p1:Int) (p2:(List aN)) (p3:(List aB)) (r:Int) (hh:dY p0 p1 p2 p3=some r):aQ .clean tab gr FU Tryz.f43 none [.agg [.sl false false p0.Vk.ah.length (ab aq p0.Vk.ah),.int .i64 p0.yQ,.int .i64 p0.uM,.int .i64 p0.uL],.int .i64 p1,.sl false false p2.length (ab bZ p2),.sl false false p3.length (ab bd p3)]=some (.clean (.int .i64 r),none):=by
 refine av rfl Tryz.ntmps43 Tryz.results43 ?_
 unfold dY at hh
 obtain⟨r1,hr1,hh⟩:=ae hh
 try simp only[cL,seval,-Int.reduceToNat,hr1]
 refine sp aj hh (fun _ hh =>?_) (fun _ hh =>?_)
 ·cases hh
  try simp only[cL,seval,-Int.reduceToNat,hr1]
 ·obtain⟨x3,hx3,hh⟩:=ae hh
  have ax3:=bG bZ hx3
  simp only[bU]at ax3
  obtain⟨r4,hr4,hh⟩:=ae hh
  try simp only[cL,seval,-Int.reduceToNat,hr1,ax3,hr4]
  refine bI (by kernel_rfl) ?_
  try simp only[cL,seval,-Int.reduceToNat,hr1,ax3,hr4]
  refine sp aj hh (fun _ hh =>?_) (fun _ hh =>?_)
  ·cases hh
   try simp only[cL,seval,-Int.reduceToNat,hr1,ax3,hr4]
  ·have ax3:=bG bZ hx3
   simp only[bU]at ax3
   obtain⟨r6,hr6,hh⟩:=ae hh
   obtain⟨r7,hr7,hh⟩:=ae hh
   try simp only[cL,seval,-Int.reduceToNat,hr1,ax3,hr4,ax3,hr6,hr7]
   refine sp aj hh (fun _ hh =>?_) (fun _ hh =>?_)
   ·cases hh
    try simp only[cL,seval,-Int.reduceToNat,hr1,ax3,hr4,ax3,hr6,hr7]
   ·cases hh
    try simp only[cL,seval,-Int.reduceToNat,hr1,ax3,hr4,ax3,hr6,hr7]
theorem sV:bH Tryz.prog 43 jd:=bH.of (mode := .clean) tok sT mixed Tryz.func43 (by kernel_rfl) ⟨by kernel_rfl,by kernel_rfl⟩ (fun _=>Nat.le_of_ble_eq_true (by kernel_rfl)) (fun x r h=>tW x.1 x.2.1 x.2.2.1 x.2.2.2 r h)
noncomputable def eu:=eL (ec (iE bd) (dJ (ZU 41))) (fun x:(List aB)×Unit=>cj x.1) (fun r:Int =>.clean (.int .i64 r))
theorem gx (p0:(List aB)):eu none [.sl false false p0.length (ab bd p0),.fn 41]=(cj p0).map fun r:Int=>(.clean (.int .i64 r),none):=aK _ _ _ (p0,())
noncomputable def de:Env:=(Am.ext aS 41 false mQ)
theorem kE:bN Tryz.prog de:=(bN.none.add y9 false)
theorem aW:type_of% (ai @w<|ai @sF<|@de.eq_1):=⟨@w,@sF,@de.eq_1⟩
theorem kX (p0:(List aB)) (r:Int) (hh:cj p0=some r):aQ .clean tab de FU Tryz.f68 none [.sl false false p0.length (ab bd p0),.fn 41]=some (.clean (.int .i64 r),none):=by
 refine av rfl Tryz.ntmps68 Tryz.results68 ?_
 unfold cj at hh
 try simp only[aW,seval,-Int.reduceToNat]
 obtain⟨o5,ho5,hh⟩:=ae hh
 refine aA (fun s t H e=>match s with|s8a=>t 0=.sl false false p0.length (ab bd p0)∧t 1=.fn 41∧t 7=.int .i64 (p0.length:Int)∧t 8=.int .i64 s8a) (fun o x t H e=>match o with|(.inl _)=>x=.exit 0|(.inr r)=>x=.ret∧gW .clean tab none [.tmp 4] ⟨t,H,e⟩=some (.clean (.int .i64 r),none)) ho5 ?_ ?_ ?_
 ·refine⟨?_,?_,?_,?_⟩
  all_goals first|rfl|(simp only[aW,seval,-Int.reduceToNat]<;>rfl)
 ·rintro s8a t H e Za c hh
  simp only[cR]at hh
  try simp only[aW,seval,-Int.reduceToNat,Za]
  refine sp aj hh (fun _ hh =>?_) (fun _ hh =>?_)
  ·obtain⟨x7,hx7,hh⟩:=ae hh
   have ax7:=bG bd hx7
   simp only[bU]at ax7
   obtain⟨r8,hr8,hh⟩:=ae hh
   try simp only[aW,seval,-Int.reduceToNat,Za,ax7,hr8]
   refine sp aj hh (fun _ hh =>?_) (fun _ hh =>?_)
   ·cases hh
    try simp only[aW,seval,-Int.reduceToNat,Za,ax7,hr8]
    refine yZ ⟨rfl,?_⟩
    try simp only[aW,seval,-Int.reduceToNat,Za,ax7,hr8]
   ·cases hh
    try simp only[aW,seval,-Int.reduceToNat,Za,ax7,hr8]
    refine jB ?_
    refine⟨?_,?_,?_,?_⟩
    all_goals first|rfl|(simp only[aW,seval,-Int.reduceToNat,Za,ax7,hr8]<;>rfl)
  ·cases hh
   try simp only[aW,seval,-Int.reduceToNat,Za]
   refine kH ?_
   exact rfl
 ·rintro x t H e hx
  rcases o5 with _|ra
  ·dsimp only at hx hh
   subst hx
   cases hh
   try simp only[aW,seval,-Int.reduceToNat]
  ·dsimp only at hx hh
   obtain⟨rfl,hE⟩:=hx
   cases hh
   try simp only[bq,bj,bF,dr,dq]
   exact hE
theorem kG:bH Tryz.prog 68 eu:=bH.of (mode := .clean) tok kE mixed Tryz.func68 (by kernel_rfl) ⟨by kernel_rfl,by kernel_rfl⟩ (fun _=>Nat.le_of_ble_eq_true (by kernel_rfl)) (fun x r h=>kX x.1 r h)
noncomputable def dK:=eL (ec (iE bd) (dJ (ZU 41))) (fun x:(List aB)×Unit=>aG x.1) (fun r:Bool =>.clean (.bool r))
theorem fK (p0:(List aB)):dK none [.sl false false p0.length (ab bd p0),.fn 41]=(aG p0).map fun r:Bool=>(.clean (.bool r),none):=aK _ _ _ (p0,())
noncomputable def cG:Env:=(Am.ext aS 68 false eu)
theorem jE:bN Tryz.prog cG:=(bN.none.add kG false)
theorem jW:type_of% (ai @w<|ai @gx<|@cG.eq_1):=⟨@w,@gx,@cG.eq_1⟩
theorem jO (p0:(List aB)) (r:Bool) (hh:aG p0=some r):aQ .clean tab cG FU Tryz.f40 none [.sl false false p0.length (ab bd p0),.fn 41]=some (.clean (.bool r),none):=by
 refine av rfl Tryz.ntmps40 Tryz.results40 ?_
 unfold aG at hh
 obtain⟨r1,hr1,hh⟩:=ae hh
 cases hh
 try simp only[jW,seval,-Int.reduceToNat,hr1]
theorem jF:bH Tryz.prog 40 dK:=bH.of (mode := .clean) tok jE mixed Tryz.func40 (by kernel_rfl) ⟨by kernel_rfl,by kernel_rfl⟩ (fun _=>Nat.le_of_ble_eq_true (by kernel_rfl)) (fun x r h=>jO x.1 r h)
noncomputable def jG:=eL (ec (cJ ep) (ec (aI .i64) (ec (aI .i64) (ec (aI .i64) (ec (iE (eI .i64)) (ec (iE bZ) (dJ (iE bd)))))))) (fun x:ax×Int×Int×Int×(List Int)×(List aN)×(List aB)=>eK x.1 x.2.1 x.2.2.1 x.2.2.2.1 x.2.2.2.2.1 x.2.2.2.2.2.1 x.2.2.2.2.2.2) (fun r:(List bp)×Int =>.clean (.tup [.sl false false r.1.length (ab ch r.1),.int .i64 r.2]))
theorem fJ (p0_0:(List al)) (p1:Int) (p2:Int) (p3:Int) (p4:(List Int)) (p5:(List aN)) (p6:(List aB)):jG none [.agg [.sl false false p0_0.length (ab aq p0_0)],.int .i64 p1,.int .i64 p2,.int .i64 p3,.sl false false p4.length (ab (eI .i64) p4),.sl false false p5.length (ab bZ p5),.sl false false p6.length (ab bd p6)]=(eK (ax.mk p0_0) p1 p2 p3 p4 p5 p6).map fun r:(List bp)×Int=>(.clean (.tup [.sl false false r.1.length (ab ch r.1),.int .i64 r.2]),none):=aK _ _ _ ((ax.mk p0_0),p1,p2,p3,p4,p5,p6)
noncomputable def l6:Env:=(Am.ext (Am.ext (Am.ext (Am.ext aS 39 false fF) 40 false dK) 42 false lV) 43 false jd)
theorem Cq:bN Tryz.prog l6:=((((bN.none.add gS false).add jF false).add ua false).add sV false)
theorem ba:type_of% (ai @w<|ai @cU<|ai @fK<|ai @mi<|ai @mF<|@l6.eq_1):=⟨@w,@cU,@fK,@mi,@mF,@l6.eq_1⟩
theorem Ei (p0:ax) (p1:Int) (p2:Int) (p3:Int) (p4:(List Int)) (p5:(List aN)) (p6:(List aB)) (r:(List bp)×Int) (hh:eK p0 p1 p2 p3 p4 p5 p6=some r):aQ .clean tab l6 FU Tryz.f13 none [.agg [.sl false false p0.ah.length (ab aq p0.ah)],.int .i64 p1,.int .i64 p2,.int .i64 p3,.sl false false p4.length (ab (eI .i64) p4),.sl false false p5.length (ab bZ p5),.sl false false p6.length (ab bd p6)]=some (.clean (.tup [.sl false false r.1.length (ab ch r.1),.int .i64 r.2]),none):=by
 refine av rfl Tryz.ntmps13 Tryz.results13 ?_
 unfold eK at hh
 obtain⟨r1,hr1,hh⟩:=ae hh
 try simp only[ba,seval,-Int.reduceToNat,hr1]
 obtain⟨o2,ho2,hh⟩:=ae hh
 refine bD 0 (fun s t H e=>match s with|s21j1=>∃v7j1:Nat,t 1=.int .i64 p1∧t 2=.int .i64 p2∧t 3=.int .i64 p3∧t 4=.sl false false p4.length (ab (eI .i64) p4)∧t 5=.sl false false p5.length (ab bZ p5)∧t 6=.sl false false p6.length (ab bd p6)∧t 7=.ptr 7 v7j1 0∧t 21=.bool s21j1∧H 7=some ⟨v7j1,24,[.sl false false p0.ah.length (ab aq p0.ah)],false,false,false⟩) (fun s=>s=o2) ?_ ?_
 ·rintro s21j1 t H e ⟨v7j1,Zj1⟩ rfl
  try dsimp only at hh
  try simp only[ba,seval,-Int.reduceToNat,hr1,Zj1]
  refine sp aj hh (fun _ hh =>?_) (fun _ hh =>?_)
  ·cases hh
   try simp only[ba,seval,-Int.reduceToNat,hr1,Zj1]
  ·obtain⟨r4,hr4,hh⟩:=ae hh
   try simp only[ba,seval,-Int.reduceToNat,hr1,Zj1,hr4]
   refine sp aj hh (fun _ hh =>?_) (fun _ hh =>?_)
   ·cases hh
    try simp only[ba,seval,-Int.reduceToNat,hr1,Zj1,hr4]
   ·obtain⟨r6,hr6,hh⟩:=ae hh
    try simp only[ba,seval,-Int.reduceToNat,hr1,Zj1,hr4,hr6]
    refine sp aj hh (fun _ hh =>?_) (fun _ hh =>?_)
    ·cases hh
     try simp only[ba,seval,-Int.reduceToNat,hr1,Zj1,hr4,hr6]
    ·try simp only[ba,seval,-Int.reduceToNat,hr1,Zj1,hr4,hr6]
     obtain⟨o14,ho14,hh⟩:=ae hh
     refine aA (fun s t H e=>match s with|(s49b,l17b)=>∃v16b:Nat,∃v17b:Nat,t 5=.sl false false p5.length (ab bZ p5)∧t 6=.sl false false p6.length (ab bd p6)∧t 16=.ptr 16 v16b 0∧t 17=.buf 17 v17b 2 0 (l17b).length∧t 47=.sl false false p4.length (ab (eI .i64) p4)∧t 48=.int .i64 (p4.length:Int)∧t 49=.int .i64 s49b∧H 16=some ⟨v16b,92,[.sl false false p0.ah.length (ab aq p0.ah),.int .i64 p1,.int .i64 p2,.int .i64 p3],false,false,false⟩∧H 17=some ⟨v17b,74,ab ch l17b,false,true,false⟩) (fun o x t H e=>match o with|l17bx=>x=.exit 1∧∃v17bx:Nat,t 17=.buf 17 v17bx 2 0 (l17bx).length∧H 17=some ⟨v17bx,74,ab ch l17bx,false,true,false⟩) ho14 ?_ ?_ ?_
     ·refine⟨e+1+1,e+1+1+1,?_,?_,?_,?_,?_,?_,?_,?_,?_⟩
      all_goals first|rfl|(simp only[ba,seval,-Int.reduceToNat,hr1,Zj1,hr4,hr6]<;>rfl)
     ·rintro⟨s49b,l17b⟩ t H e ⟨v16b,v17b,Zb⟩ c hh
      simp only[ew]at hh
      try simp only[ba,seval,-Int.reduceToNat,hr1,hr4,hr6,Zb]
      refine sp aj hh (fun _ hh =>?_) (fun _ hh =>?_)
      ·obtain⟨x16,hx16,hh⟩:=ae hh
       have ax16:=bG (eI .i64) hx16
       simp only[bU]at ax16
       obtain⟨r17,hr17,hh⟩:=ae hh
       try simp only[ba,seval,-Int.reduceToNat,hr1,hr4,hr6,Zb,ax16,hr17]
       refine sp aj hh (fun _ hh =>?_) (fun _ hh =>?_)
       ·obtain⟨x19,hx19,hh⟩:=ae hh
        obtain⟨q20a,q20b,q20c,q20d⟩:=fi ch hx19
        simp only[bU]at q20b
        cases hh
        try simp only[ba,seval,-Int.reduceToNat,hr1,hr4,hr6,Zb,ax16,hr17,q20a,q20b,q20c,q20d]
        refine jB ?_
        refine⟨v16b,e+1+1+1+1,?_,?_,?_,?_,?_,?_,?_,?_,?_⟩
        all_goals first|rfl|(simp only[ba,seval,-Int.reduceToNat,hr1,hr4,hr6,Zb,ax16,hr17,q20a,q20b,q20c,q20d]<;>rfl)
       ·cases hh
        try simp only[ba,seval,-Int.reduceToNat,hr1,hr4,hr6,Zb,ax16,hr17]
        refine jB ?_
        refine⟨v16b,v17b,?_,?_,?_,?_,?_,?_,?_,?_,?_⟩
        all_goals first|rfl|(simp only[ba,seval,-Int.reduceToNat,hr1,hr4,hr6,Zb,ax16,hr17]<;>rfl)
      ·cases hh
       try simp only[ba,seval,-Int.reduceToNat,hr1,hr4,hr6,Zb]
       refine kH ?_
       refine⟨rfl,⟨v17b,?_,?_⟩⟩
       all_goals first|rfl|(simp only[ba,seval,-Int.reduceToNat,hr1,hr4,hr6,Zb]<;>rfl)
     ·rintro x t H e hx
      obtain⟨l17bx,rfl⟩:∃z,z=o14:=⟨_,rfl⟩
      dsimp only at hx hh
      obtain⟨rfl,⟨v17bx,Zbx⟩⟩:=hx
      cases hh
      try simp only[ba,seval,-Int.reduceToNat,hr1,hr4,hr6,Zbx]
 ·clear hh
  have hh:=ho2
  try simp only[ba,seval,-Int.reduceToNat,hr1]
  refine sp aU hh (fun _ hh =>?_) (fun _ hh =>?_)
  ·cases hh
   try simp only[ba,seval,-Int.reduceToNat,hr1]
   rw[ak]
   refine⟨_,rfl,?_⟩
   refine⟨0,?_,?_,?_,?_,?_,?_,?_,?_,?_⟩
   all_goals first|rfl|(simp only[ba,seval,-Int.reduceToNat,hr1]<;>rfl)
  ·try simp only[ba,seval,-Int.reduceToNat,hr1]
   refine sp aU hh (fun _ hh =>?_) (fun _ hh =>?_)
   ·cases hh
    try simp only[ba,seval,-Int.reduceToNat,hr1]
    rw[ak]
    refine⟨_,rfl,?_⟩
    refine⟨0,?_,?_,?_,?_,?_,?_,?_,?_,?_⟩
    all_goals first|rfl|(simp only[ba,seval,-Int.reduceToNat,hr1]<;>rfl)
   ·cases hh
    try simp only[ba,seval,-Int.reduceToNat,hr1]
    rw[ak]
    refine⟨_,rfl,?_⟩
    refine⟨0,?_,?_,?_,?_,?_,?_,?_,?_,?_⟩
    all_goals first|rfl|(simp only[ba,seval,-Int.reduceToNat,hr1]<;>rfl)
theorem oM:bH Tryz.prog 13 jG:=bH.of (mode := .clean) tok Cq mixed Tryz.func13 (by kernel_rfl) ⟨by kernel_rfl,by kernel_rfl⟩ (fun _=>Nat.le_of_ble_eq_true (by kernel_rfl)) (fun x r h=>Ei x.1 x.2.1 x.2.2.1 x.2.2.2.1 x.2.2.2.2.1 x.2.2.2.2.2.1 x.2.2.2.2.2.2 r h)
noncomputable def wI:=eL (ec (iE ch) (dJ (iE ch))) (fun x:(List bp)×(List bp)=>oS x.1 x.2) (fun r:Bool =>.clean (.bool r))
theorem Dj (p0:(List bp)) (p1:(List bp)):wI none [.sl false false p0.length (ab ch p0),.sl false false p1.length (ab ch p1)]=(oS p0 p1).map fun r:Bool=>(.clean (.bool r),none):=aK _ _ _ (p0,p1)
theorem Na (p0:(List bp)) (p1:(List bp)) (r:Bool) (hh:oS p0 p1=some r):aQ .clean tab aS FU Tryz.f17 none [.sl false false p0.length (ab ch p0),.sl false false p1.length (ab ch p1)]=some (.clean (.bool r),none):=by
 refine av rfl Tryz.ntmps17 Tryz.results17 ?_
 unfold oS at hh
 try simp only[w,seval,-Int.reduceToNat]
 refine sp aj hh (fun _ hh =>?_) (fun _ hh =>?_)
 ·cases hh
  try simp only[w,seval,-Int.reduceToNat]
 ·try simp only[w,seval,-Int.reduceToNat]
  obtain⟨o6,ho6,hh⟩:=ae hh
  refine aA (fun s t H e=>match s with|s5a=>t 0=.sl false false p0.length (ab ch p0)∧t 1=.sl false false p1.length (ab ch p1)∧t 5=.int .i64 s5a) (fun o x t H e=>match o with|(.inl _)=>x=.exit 0|(.inr r)=>x=.ret∧gW .clean tab none [.tmp 4] ⟨t,H,e⟩=some (.clean (.bool r),none)) ho6 ?_ ?_ ?_
  ·refine⟨?_,?_,?_⟩
   all_goals first|rfl|(simp only[w,seval,-Int.reduceToNat]<;>rfl)
  ·rintro s5a t H e Za c hh
   simp only[mM]at hh
   try simp only[w,seval,-Int.reduceToNat,Za]
   refine sp aj hh (fun _ hh =>?_) (fun _ hh =>?_)
   ·obtain⟨x8,hx8,hh⟩:=ae hh
    have ax8:=bG ch hx8
    simp only[bU]at ax8
    obtain⟨x9,hx9,hh⟩:=ae hh
    have ax9:=bG ch hx9
    simp only[bU]at ax9
    try simp only[w,seval,-Int.reduceToNat,Za,ax8,ax9]
    refine bI (by kernel_rfl) ?_
    try simp only[w,seval,-Int.reduceToNat,Za,ax8,ax9]
    refine sp aj hh (fun _ hh =>?_) (fun _ hh =>?_)
    ·cases hh
     try simp only[w,seval,-Int.reduceToNat,Za,ax8,ax9]
     refine yZ ⟨rfl,?_⟩
     try simp only[w,seval,-Int.reduceToNat,Za,ax8,ax9]
    ·cases hh
     try simp only[w,seval,-Int.reduceToNat,Za,ax8,ax9]
     refine jB ?_
     refine⟨?_,?_,?_⟩
     all_goals first|rfl|(simp only[w,seval,-Int.reduceToNat,Za,ax8,ax9]<;>rfl)
   ·cases hh
    try simp only[w,seval,-Int.reduceToNat,Za]
    refine kH ?_
    exact rfl
  ·rintro x t H e hx
   rcases o6 with _|ra
   ·dsimp only at hx hh
    subst hx
    cases hh
    try simp only[w,seval,-Int.reduceToNat]
   ·dsimp only at hx hh
    obtain⟨rfl,hE⟩:=hx
    cases hh
    try simp only[bq,bj,bF,dr,dq]
    exact hE
theorem La:bH Tryz.prog 17 wI:=bH.of (mode := .clean) tok bN.none mixed Tryz.func17 (by kernel_rfl) ⟨by kernel_rfl,by kernel_rfl⟩ (fun _=>Nat.le_of_ble_eq_true (by kernel_rfl)) (fun x r h=>Na x.1 x.2 r h)
noncomputable def wF:=eL (ec (cJ ep) (ec (iE (eI .i64)) (ec (aI .i64) (ec (iE bd) (dJ (iE ch)))))) (fun x:ax×(List Int)×Int×(List aB)×(List bp)=>jN x.1 x.2.1 x.2.2.1 x.2.2.2.1 x.2.2.2.2) (fun r:Bool =>.clean (.bool r))
theorem lO (p0_0:(List al)) (p1:(List Int)) (p2:Int) (p3:(List aB)) (p4:(List bp)):wF none [.agg [.sl false false p0_0.length (ab aq p0_0)],.sl false false p1.length (ab (eI .i64) p1),.int .i64 p2,.sl false false p3.length (ab bd p3),.sl false false p4.length (ab ch p4)]=(jN (ax.mk p0_0) p1 p2 p3 p4).map fun r:Bool=>(.clean (.bool r),none):=aK _ _ _ ((ax.mk p0_0),p1,p2,p3,p4)
noncomputable def rA:Env:=(Am.ext (Am.ext aS 13 false jG) 17 false wI)
theorem JQ:bN Tryz.prog rA:=((bN.none.add oM false).add La false)
theorem xf:type_of% (ai @w<|ai @fJ<|ai @Dj<|@rA.eq_1):=⟨@w,@fJ,@Dj,@rA.eq_1⟩
theorem M4 (p0:ax) (p1:(List Int)) (p2:Int) (p3:(List aB)) (p4:(List bp)) (r:Bool) (hh:jN p0 p1 p2 p3 p4=some r):aQ .clean tab rA FU Tryz.f38 none [.agg [.sl false false p0.ah.length (ab aq p0.ah)],.sl false false p1.length (ab (eI .i64) p1),.int .i64 p2,.sl false false p3.length (ab bd p3),.sl false false p4.length (ab ch p4)]=some (.clean (.bool r),none):=by
 refine av rfl Tryz.ntmps38 Tryz.results38 ?_
 unfold jN at hh
 have i1:=fJ p0.ah 4 60 24 p1 ([(aN.mk 1 ([4,3,1]) (ByteArray.mk #[98]) p2 8)]) p3
 simp only[aP,bU,List.length_cons,List.length_nil,Nat.zero_add,Nat.reduceAdd,List.length_set]at i1
 obtain⟨r2,hr2,hh⟩:=ae hh
 try simp only[xf,seval,-Int.reduceToNat,i1,hr2]
 refine sp bJ hh (fun _ hh =>?_) (fun _ hh =>?_)
 ·obtain⟨r4,hr4,hh⟩:=ae hh
  cases hh
  try simp only[xf,seval,-Int.reduceToNat,i1,hr2,hr4]
 ·cases hh
  try simp only[xf,seval,-Int.reduceToNat,i1,hr2]
theorem K7:bH Tryz.prog 38 wF:=bH.of (mode := .clean) tok JQ mixed Tryz.func38 (by kernel_rfl) ⟨by kernel_rfl,by kernel_rfl⟩ (fun _=>Nat.le_of_ble_eq_true (by kernel_rfl)) (fun x r h=>M4 x.1 x.2.1 x.2.2.1 x.2.2.2.1 x.2.2.2.2 r h)
noncomputable def te:=eL (dJ (iE (eI .i64))) (fun x:(List Int)=>vv x) (fun r:ByteArray =>.clean (.str r))
theorem Ak (p0:(List Int)):te none [.sl false false p0.length (ab (eI .i64) p0)]=(vv p0).map fun r:ByteArray=>(.clean (.str r),none):=aK _ _ _ p0
theorem H3:bH Tryz.prog 53 te:=Vu
noncomputable def pd:=eL (dJ (iE (eI .i64))) (fun x:(List Int)=>kB x) (fun r:ByteArray =>.clean (.str r))
theorem mG (p0:(List Int)):pd none [.sl false false p0.length (ab (eI .i64) p0)]=(kB p0).map fun r:ByteArray=>(.clean (.str r),none):=aK _ _ _ (p0)
noncomputable def pC:Env:=(Am.ext aS 53 false te)
theorem Hr:bN Tryz.prog pC:=(bN.none.add H3 false)
theorem L6:type_of% (ai @w<|ai @Ak<|@pC.eq_1):=⟨@w,@Ak,@pC.eq_1⟩
theorem KJ (p0:(List Int)) (r:ByteArray) (hh:kB p0=some r):aQ .clean tab pC FU Tryz.f21 none [.sl false false p0.length (ab (eI .i64) p0)]=some (.clean (.str r),none):=by
 refine av rfl Tryz.ntmps21 Tryz.results21 ?_
 unfold kB at hh
 obtain⟨r1,hr1,hh⟩:=ae hh
 cases hh
 try simp only[L6,seval,-Int.reduceToNat,hr1]
theorem xU:bH Tryz.prog 21 pd:=bH.of (mode := .clean) tok Hr mixed Tryz.func21 (by kernel_rfl) ⟨by kernel_rfl,by kernel_rfl⟩ (fun _=>Nat.le_of_ble_eq_true (by kernel_rfl)) (fun x r h=>KJ x r h)
theorem Ep (p0 r:(List al)) (hh:kz p0=some r):aQ .tight tab aS FU Tryz.f92 none [.sl false false p0.length (ab aq p0)]=some (.clean (.sl false true r.length (ab aq r)),none):=by
 unfold kz at hh
 split at hh
 ·cases hh
  refine av rfl Tryz.ntmps92 Tryz.results92 ?_
  simp only[w,seval,-Int.reduceToNat,Int.toNat_natCast,Int.natCast_nonneg]
 ·cases hh
noncomputable def pV:=eL (dJ (iE aq)) (fun x:(List al)=>kz x) (fun r:(List al) =>.clean (.sl false true r.length (ab aq r)))
theorem wc (p0:(List al)):pV none [.sl false false p0.length (ab aq p0)]=(kz p0).map fun r:(List al)=>(.clean (.sl false true r.length (ab aq r)),none):=aK _ _ _ p0
theorem C4:bH Tryz.prog 92 pV:=bH.of (mode := .tight) tok bN.none mixed Tryz.func92 (by kernel_rfl) ⟨by kernel_rfl,by kernel_rfl⟩ (fun _=>Nat.le_of_ble_eq_true (by kernel_rfl)) (fun x r h=>Ep x r h)
noncomputable def td:=eL (ec (cJ ep) (dJ (cJ aq))) (fun x:ax×al=>lT x.1 x.2) (fun r:ax×Int×Int =>.clean (.tup [.agg [.sl false false r.1.ah.length (ab aq r.1.ah)],.int .i64 r.2.1,.int .i64 r.2.2]))
theorem Aj (p0_0:(List al)) (p1_0:ByteArray) (p1_1:Int) (p1_2:Int) (p1_3:Int) (p1_4:Int):td none [.agg [.sl false false p0_0.length (ab aq p0_0)],.agg [.str p1_0,.int .i64 p1_1,.int .i64 p1_2,.int .i64 p1_3,.int .i64 p1_4]]=(lT (ax.mk p0_0) (al.mk p1_0 p1_1 p1_2 p1_3 p1_4)).map fun r:ax×Int×Int=>(.clean (.tup [.agg [.sl false false r.1.ah.length (ab aq r.1.ah)],.int .i64 r.2.1,.int .i64 r.2.2]),none):=aK _ _ _ ((ax.mk p0_0),(al.mk p1_0 p1_1 p1_2 p1_3 p1_4))
noncomputable def pE:Env:=(Am.ext (Am.ext aS 63 false kL) 92 false pV)
theorem Ht:bN Tryz.prog pE:=((bN.none.add sE false).add C4 false)
theorem AD:type_of% (ai @w<|ai @ll<|ai @wc<|@pE.eq_1):=⟨@w,@ll,@wc,@pE.eq_1⟩
theorem KM (p0:ax) (p1:al) (r:ax×Int×Int) (hh:lT p0 p1=some r):aQ .clean tab pE FU Tryz.f52 none [.agg [.sl false false p0.ah.length (ab aq p0.ah)],.agg [.str p1.cI,.int .i64 p1.aJ,.int .i64 p1.aM,.int .i64 p1.bn,.int .i64 p1.bg]]=some (.clean (.tup [.agg [.sl false false r.1.ah.length (ab aq r.1.ah)],.int .i64 r.2.1,.int .i64 r.2.2]),none):=by
 refine av rfl Tryz.ntmps52 Tryz.results52 ?_
 unfold lT at hh
 obtain⟨r1,hr1,hh⟩:=ae hh
 obtain⟨r2,hr2,hh⟩:=ae hh
 obtain⟨x3,hx3,hh⟩:=ae hh
 obtain⟨q4a,q4b,q4c,q4d⟩:=fi aq hx3
 simp only[bU]at q4b
 try simp only[AD,seval,-Int.reduceToNat,hr1,hr2,q4a,q4b,q4c,q4d]
 refine bI (by kernel_rfl) ?_
 cases hh
 try simp only[AD,seval,-Int.reduceToNat,hr1,hr2,q4a,q4b,q4c,q4d]
theorem H2:bH Tryz.prog 52 td:=bH.of (mode := .clean) tok Ht mixed Tryz.func52 (by kernel_rfl) ⟨by kernel_rfl,by kernel_rfl⟩ (fun _=>Nat.le_of_ble_eq_true (by kernel_rfl)) (fun x r h=>KM x.1 x.2 r h)
noncomputable def qS:=eL (ec (cJ ep) (ec UY (ec (aI .i64) (dJ (aI .i64))))) (fun x:ax×ByteArray×Int×Int=>kj x.1 x.2.1 x.2.2.1 x.2.2.2) (fun r:ax×Int×Int =>.clean (.tup [.agg [.sl false false r.1.ah.length (ab aq r.1.ah)],.int .i64 r.2.1,.int .i64 r.2.2]))
theorem yc (p0_0:(List al)) (p1:ByteArray) (p2:Int) (p3:Int):qS none [.agg [.sl false false p0_0.length (ab aq p0_0)],.str p1,.int .i64 p2,.int .i64 p3]=(kj (ax.mk p0_0) p1 p2 p3).map fun r:ax×Int×Int=>(.clean (.tup [.agg [.sl false false r.1.ah.length (ab aq r.1.ah)],.int .i64 r.2.1,.int .i64 r.2.2]),none):=aK _ _ _ ((ax.mk p0_0),p1,p2,p3)
noncomputable def nL:Env:=(Am.ext (Am.ext (Am.ext aS 39 false fF) 51 false ns) 52 false td)
theorem Ed:bN Tryz.prog nL:=(((bN.none.add gS false).add v8 false).add H2 false)
theorem eG:type_of% (ai @w<|ai @cU<|ai @nV<|ai @Aj<|@nL.eq_1):=⟨@w,@cU,@nV,@Aj,@nL.eq_1⟩
theorem HJ (p0:ax) (p1:ByteArray) (p2:Int) (p3:Int) (r:ax×Int×Int) (hh:kj p0 p1 p2 p3=some r):aQ .clean tab nL FU Tryz.f20 none [.agg [.sl false false p0.ah.length (ab aq p0.ah)],.str p1,.int .i64 p2,.int .i64 p3]=some (.clean (.tup [.agg [.sl false false r.1.ah.length (ab aq r.1.ah)],.int .i64 r.2.1,.int .i64 r.2.2]),none):=by
 refine av rfl Tryz.ntmps20 Tryz.results20 ?_
 unfold kj at hh
 obtain⟨r1,hr1,hh⟩:=ae hh
 try simp only[eG,seval,-Int.reduceToNat,hr1]
 obtain⟨o2,ho2,hh⟩:=ae hh
 refine bD 0 (fun s t H e=>match s with|s16j1=>∃v4j1:Nat,∃v8j1:Nat,∃v11j1:Nat,t 4=.ptr 4 v4j1 0∧t 8=.ptr 8 v8j1 0∧t 11=.ptr 11 v11j1 0∧t 16=.bool s16j1∧H 4=some ⟨v4j1,24,[.sl false false p0.ah.length (ab aq p0.ah)],false,false,false⟩∧H 8=some ⟨v8j1,24,[.sl true true 0 []],false,false,false⟩∧H 11=some ⟨v11j1,87,[.str p1,.int .i64 p2,.int .i64 p3,.int .i64 (-1),.int .i64 (-1)],false,false,false⟩) (fun s=>s=o2) ?_ ?_
 ·rintro s16j1 t H e ⟨v4j1,v8j1,v11j1,Zj1⟩ rfl
  try dsimp only at hh
  try simp only[eG,seval,-Int.reduceToNat,hr1,Zj1]
  refine sp aj hh (fun _ hh =>?_) (fun _ hh =>?_)
  ·cases hh
   try simp only[eG,seval,-Int.reduceToNat,hr1,Zj1]
  ·try simp only[eG,seval,-Int.reduceToNat,hr1,Zj1]
   refine sp aj hh (fun _ hh =>?_) (fun _ hh =>?_)
   ·cases hh
    try simp only[eG,seval,-Int.reduceToNat,hr1,Zj1]
   ·obtain⟨r5,hr5,hh⟩:=ae hh
    cases hh
    try simp only[eG,seval,-Int.reduceToNat,hr1,Zj1,hr5]
 ·clear hh
  have hh:=ho2
  try simp only[eG,seval,-Int.reduceToNat,hr1]
  refine sp aU hh (fun _ hh =>?_) (fun _ hh =>?_)
  ·cases hh
   try simp only[eG,seval,-Int.reduceToNat,hr1]
   rw[ak]
   refine⟨_,rfl,?_⟩
   refine⟨0,0,1,?_,?_,?_,?_,?_,?_,?_⟩
   all_goals first|rfl|(simp only[eG,seval,-Int.reduceToNat,hr1]<;>rfl)
  ·obtain⟨r7,hr7,hh⟩:=ae hh
   cases hh
   try simp only[eG,seval,-Int.reduceToNat,hr1,hr7]
   rw[ak]
   refine⟨_,rfl,?_⟩
   refine⟨0,0,1,?_,?_,?_,?_,?_,?_,?_⟩
   all_goals first|rfl|(simp only[eG,seval,-Int.reduceToNat,hr1,hr7]<;>rfl)
theorem EC:bH Tryz.prog 20 qS:=bH.of (mode := .clean) tok Ed mixed Tryz.func20 (by kernel_rfl) ⟨by kernel_rfl,by kernel_rfl⟩ (fun _=>Nat.le_of_ble_eq_true (by kernel_rfl)) (fun x r h=>HJ x.1 x.2.1 x.2.2.1 x.2.2.2 r h)
noncomputable def np:=eL (ec (iE (eI .i64)) (dJ (aI .i64))) (fun x:(List Int)×Int=>jm x.1 x.2) (fun r:Bool =>.clean (.bool r))
theorem nU (p0:(List Int)) (p1:Int):np none [.sl false false p0.length (ab (eI .i64) p0),.int .i64 p1]=(jm p0 p1).map fun r:Bool=>(.clean (.bool r),none):=aK _ _ _ (p0,p1)
theorem HD (p0:(List Int)) (p1:Int) (r:Bool) (hh:jm p0 p1=some r):aQ .clean tab aS FU Tryz.f23 none [.sl false false p0.length (ab (eI .i64) p0),.int .i64 p1]=some (.clean (.bool r),none):=by
 refine av rfl Tryz.ntmps23 Tryz.results23 ?_
 unfold jm at hh
 try simp only[w,seval,-Int.reduceToNat]
 obtain⟨o1,ho1,hh⟩:=ae hh
 refine bD 0 (fun s t H e=>match s with|s19j1=>t 0=.sl false false p0.length (ab (eI .i64) p0)∧t 1=.int .i64 p1∧t 19=.bool s19j1) (fun s=>s=o1) ?_ ?_
 ·rintro s19j1 t H e Zj1 rfl
  try dsimp only at hh
  try simp only[w,seval,-Int.reduceToNat,Zj1]
  refine sp aj hh (fun _ hh =>?_) (fun _ hh =>?_)
  ·cases hh
   try simp only[w,seval,-Int.reduceToNat,Zj1]
  ·try simp only[w,seval,-Int.reduceToNat,Zj1]
   obtain⟨o7,ho7,hh⟩:=ae hh
   refine aA (fun s t H e=>match s with|s22b=>t 1=.int .i64 p1∧t 20=.sl false false p0.length (ab (eI .i64) p0)∧t 21=.int .i64 (p0.length:Int)∧t 22=.int .i64 s22b) (fun o x t H e=>match o with|(.inl _)=>x=.exit 0|(.inr r)=>x=.ret∧gW .clean tab none [.tmp 4] ⟨t,H,e⟩=some (.clean (.bool r),none)) ho7 ?_ ?_ ?_
   ·refine⟨?_,?_,?_,?_⟩
    all_goals first|rfl|(simp only[w,seval,-Int.reduceToNat,Zj1]<;>rfl)
   ·rintro s22b t H e Zb c hh
    simp only[jT]at hh
    try simp only[w,seval,-Int.reduceToNat,Zb]
    refine sp aj hh (fun _ hh =>?_) (fun _ hh =>?_)
    ·obtain⟨x9,hx9,hh⟩:=ae hh
     have ax9:=bG (eI .i64) hx9
     simp only[bU]at ax9
     try simp only[w,seval,-Int.reduceToNat,Zb,ax9]
     refine sp aU hh (fun _ hh =>?_) (fun _ hh =>?_)
     ·cases hh
      try simp only[w,seval,-Int.reduceToNat,Zb,ax9]
      refine yZ ⟨rfl,?_⟩
      try simp only[w,seval,-Int.reduceToNat,Zb,ax9]
     ·try simp only[w,seval,-Int.reduceToNat,Zb,ax9]
      refine sp aj hh (fun _ hh =>?_) (fun _ hh =>?_)
      ·cases hh
       try simp only[w,seval,-Int.reduceToNat,Zb,ax9]
       refine yZ ⟨rfl,?_⟩
       try simp only[w,seval,-Int.reduceToNat,Zb,ax9]
      ·cases hh
       try simp only[w,seval,-Int.reduceToNat,Zb,ax9]
       refine jB ?_
       refine⟨?_,?_,?_,?_⟩
       all_goals first|rfl|(simp only[w,seval,-Int.reduceToNat,Zb,ax9]<;>rfl)
    ·cases hh
     try simp only[w,seval,-Int.reduceToNat,Zb]
     refine kH ?_
     exact rfl
   ·rintro x t H e hx
    rcases o7 with _|rb
    ·dsimp only at hx hh
     subst hx
     cases hh
     try simp only[w,seval,-Int.reduceToNat]
    ·dsimp only at hx hh
     obtain⟨rfl,hE⟩:=hx
     cases hh
     try simp only[bq,bj,bF,dr,dq]
     exact hE
 ·clear hh
  have hh:=ho1
  try simp only[w,seval,-Int.reduceToNat]
  refine sp aU hh (fun _ hh =>?_) (fun _ hh =>?_)
  ·cases hh
   try simp only[w,seval,-Int.reduceToNat]
   rw[ak]
   refine⟨_,rfl,?_⟩
   refine⟨?_,?_,?_⟩
   all_goals first|rfl|(simp only[w,seval,-Int.reduceToNat]<;>rfl)
  ·try simp only[w,seval,-Int.reduceToNat]
   refine sp aU hh (fun _ hh =>?_) (fun _ hh =>?_)
   ·cases hh
    try simp only[w,seval,-Int.reduceToNat]
    rw[ak]
    refine⟨_,rfl,?_⟩
    refine⟨?_,?_,?_⟩
    all_goals first|rfl|(simp only[w,seval,-Int.reduceToNat]<;>rfl)
   ·cases hh
    try simp only[w,seval,-Int.reduceToNat]
    rw[ak]
    refine⟨_,rfl,?_⟩
    refine⟨?_,?_,?_⟩
    all_goals first|rfl|(simp only[w,seval,-Int.reduceToNat]<;>rfl)
theorem vZ:bH Tryz.prog 23 np:=bH.of (mode := .clean) tok bN.none mixed Tryz.func23 (by kernel_rfl) ⟨by kernel_rfl,by kernel_rfl⟩ (fun _=>Nat.le_of_ble_eq_true (by kernel_rfl)) (fun x r h=>HD x.1 x.2 r h)
noncomputable def s7:=eL (ec (iE (qG (eI .i64))) (ec (aI .i64) (dJ (aI .i64)))) (fun x:(List (List Int))×Int×Int=>lQ x.1 x.2.1 x.2.2) (fun r:(List Int)×Int =>.clean (.tup [.sl false false r.1.length (ab (eI .i64) r.1),.int .i64 r.2]))
theorem Ag (p0:(List (List Int))) (p1:Int) (p2:Int):s7 none [.sl false false p0.length (ab (qG (eI .i64)) p0),.int .i64 p1,.int .i64 p2]=(lQ p0 p1 p2).map fun r:(List Int)×Int=>(.clean (.tup [.sl false false r.1.length (ab (eI .i64) r.1),.int .i64 r.2]),none):=aK _ _ _ (p0,p1,p2)
noncomputable def pB:Env:=(Am.ext aS 23 false np)
theorem Hq:bN Tryz.prog pB:=(bN.none.add vZ false)
theorem aO:type_of% (ai @w<|ai @nU<|@pB.eq_1):=⟨@w,@nU,@pB.eq_1⟩
theorem KI (p0:(List (List Int))) (p1:Int) (p2:Int) (r:(List Int)×Int) (hh:lQ p0 p1 p2=some r):aQ .clean tab pB FU Tryz.f82 none [.sl false false p0.length (ab (qG (eI .i64)) p0),.int .i64 p1,.int .i64 p2]=some (.clean (.tup [.sl false false r.1.length (ab (eI .i64) r.1),.int .i64 r.2]),none):=by
 refine av rfl Tryz.ntmps82 Tryz.results82 ?_
 unfold lQ at hh
 try simp only[aO,seval,-Int.reduceToNat]
 obtain⟨o1,ho1,hh⟩:=ae hh
 refine bD 0 (fun s t H e=>match s with|s32j1=>t 0=.sl false false p0.length (ab (qG (eI .i64)) p0)∧t 1=.int .i64 p1∧t 2=.int .i64 p2∧t 32=.bool s32j1) (fun s=>s=o1) ?_ ?_
 ·rintro s32j1 t H e Zj1 rfl
  try dsimp only at hh
  try simp only[aO,seval,-Int.reduceToNat,Zj1]
  refine sp aj hh (fun _ hh =>?_) (fun _ hh =>?_)
  ·cases hh
   try simp only[aO,seval,-Int.reduceToNat,Zj1]
  ·obtain⟨x3,hx3,hh⟩:=ae hh
   obtain⟨q4a,q4b,q4c,q4d,q4e⟩:=mk_one (eI .i64) hx3
   simp only[bU]at q4d
   try simp only[aO,seval,-Int.reduceToNat,Zj1,q4a,q4b,q4c,q4d,q4e]
   obtain⟨o24,ho24,hh⟩:=ae hh
   refine aA (fun s t H e=>match s with|(s37b,l8b)=>∃v8b:Nat,t 1=.int .i64 p1∧t 2=.int .i64 p2∧t 8=.buf 8 v8b 1 0 (l8b).length∧t 35=.sl false false p0.length (ab (qG (eI .i64)) p0)∧t 36=.int .i64 (p0.length:Int)∧t 37=.int .i64 s37b∧H 8=some ⟨v8b,3,ab (eI .i64) l8b,false,true,false⟩) (fun o x t H e=>match o with|(.inl l8bx)=>x=.exit 0∧∃v8bx:Nat,t 8=.buf 8 v8bx 1 0 (l8bx).length∧H 8=some ⟨v8bx,3,ab (eI .i64) l8bx,false,true,false⟩|(.inr r)=>x=.ret∧gW .clean tab none [.tmp 6,.tmp 7] ⟨t,H,e⟩=some (.clean (.tup [.sl false false r.1.length (ab (eI .i64) r.1),.int .i64 r.2]),none)) ho24 ?_ ?_ ?_
   ·refine⟨e,?_,?_,?_,?_,?_,?_,?_⟩
    all_goals first|rfl|(simp only[aO,seval,-Int.reduceToNat,Zj1,q4a,q4b,q4c,q4d,q4e]<;>rfl)
   ·rintro⟨s37b,l8b⟩ t H e ⟨v8b,Zb⟩ c hh
    simp only[oa]at hh
    try simp only[aO,seval,-Int.reduceToNat,q4a,q4b,q4c,q4d,q4e,Zb]
    refine sp aj hh (fun _ hh =>?_) (fun _ hh =>?_)
    ·obtain⟨x26,hx26,hh⟩:=ae hh
     have ax26:=bG (qG (eI .i64)) hx26
     simp only[bU]at ax26
     try simp only[aO,seval,-Int.reduceToNat,q4a,q4b,q4c,q4d,q4e,Zb,ax26]
     obtain⟨o27,ho27,hh⟩:=ae hh
     refine bD 0 (fun s t H e=>match s with|s50j5=>∃v8j5:Nat,t 1=.int .i64 p1∧t 2=.int .i64 p2∧t 8=.buf 8 v8j5 1 0 (l8b).length∧t 10=.sl false false x26.length (ab (eI .i64) x26)∧t 35=.sl false false p0.length (ab (qG (eI .i64)) p0)∧t 36=.int .i64 (p0.length:Int)∧t 37=.int .i64 s37b∧t 50=.bool s50j5∧H 8=some ⟨v8j5,3,ab (eI .i64) l8b,false,true,false⟩) (fun s=>s=o27) ?_ ?_
     ·rintro s50j5 t H e ⟨v8j5,Zj5⟩ rfl
      try dsimp only at hh
      try simp only[aO,seval,-Int.reduceToNat,q4a,q4b,q4c,q4d,q4e,ax26,Zj5]
      refine sp aj hh (fun _ hh =>?_) (fun _ hh =>?_)
      ·cases hh
       try simp only[aO,seval,-Int.reduceToNat,q4a,q4b,q4c,q4d,q4e,ax26,Zj5]
       refine yZ ⟨rfl,?_⟩
       try simp only[aO,seval,-Int.reduceToNat,q4a,q4b,q4c,q4d,q4e,ax26,Zj5]
      ·try simp only[aO,seval,-Int.reduceToNat,q4a,q4b,q4c,q4d,q4e,ax26,Zj5]
       obtain⟨o35,ho35,hh⟩:=ae hh
       refine aA (fun s t H e=>match s with|(s53f,l8f)=>∃v8f:Nat,t 1=.int .i64 p1∧t 2=.int .i64 p2∧t 8=.buf 8 v8f 1 0 (l8f).length∧t 35=.sl false false p0.length (ab (qG (eI .i64)) p0)∧t 36=.int .i64 (p0.length:Int)∧t 37=.int .i64 s37b∧t 51=.sl false false x26.length (ab (eI .i64) x26)∧t 52=.int .i64 (x26.length:Int)∧t 53=.int .i64 s53f∧H 8=some ⟨v8f,3,ab (eI .i64) l8f,false,true,false⟩) (fun o x t H e=>match o with|l8fx=>x=.exit 2∧∃v8fx:Nat,t 1=.int .i64 p1∧t 2=.int .i64 p2∧t 8=.buf 8 v8fx 1 0 (l8fx).length∧t 35=.sl false false p0.length (ab (qG (eI .i64)) p0)∧t 36=.int .i64 (p0.length:Int)∧t 37=.int .i64 s37b∧H 8=some ⟨v8fx,3,ab (eI .i64) l8fx,false,true,false⟩) ho35 ?_ ?_ ?_
       ·refine⟨v8j5,?_,?_,?_,?_,?_,?_,?_,?_,?_,?_⟩
        all_goals first|rfl|(simp only[aO,seval,-Int.reduceToNat,q4a,q4b,q4c,q4d,q4e,ax26,Zj5]<;>rfl)
       ·rintro⟨s53f,l8f⟩ t H e ⟨v8f,Zf⟩ c hh
        simp only[jA]at hh
        try simp only[aO,seval,-Int.reduceToNat,q4a,q4b,q4c,q4d,q4e,ax26,Zf]
        refine sp aj hh (fun _ hh =>?_) (fun _ hh =>?_)
        ·obtain⟨x37,hx37,hh⟩:=ae hh
         have ax37:=bG (eI .i64) hx37
         simp only[bU]at ax37
         obtain⟨x38,hx38,hh⟩:=ae hh
         have ax38:=bG (eI .i64) hx38
         simp only[bU]at ax38
         obtain⟨x39,hx39,hh⟩:=ae hh
         have q40:=rL hx39
         have ax38:=bG (eI .i64) hx38
         simp only[bU]at ax38
         have p41:=iz (eI .i64) (x':=x39) (fo:=0) (cs:=[.int .i64 x39]) hx38 rfl (Nat.le_of_ble_eq_true rfl)
         simp only[bU,Nat.add_zero]at p41
         have up41:=p41
         simp only[putCells,List.length_cons,List.length_nil,Nat.zero_add,Nat.reduceAdd]at up41
         cases hh
         try simp only[aO,seval,-Int.reduceToNat,q4a,q4b,q4c,q4d,q4e,ax26,Zf,ax37,ax38,q40,ax38,p41,up41]
         refine jB ?_
         refine⟨v8f,?_,?_,?_,?_,?_,?_,?_,?_,?_,?_⟩
         all_goals first|rfl|(simp only[aO,seval,-Int.reduceToNat,q4a,q4b,q4c,q4d,q4e,ax26,Zf,ax37,ax38,q40,ax38,p41,up41]<;>rfl)
        ·cases hh
         try simp only[aO,seval,-Int.reduceToNat,q4a,q4b,q4c,q4d,q4e,ax26,Zf]
         refine kH ?_
         refine⟨rfl,⟨v8f,?_,?_,?_,?_,?_,?_,?_⟩⟩
         all_goals first|rfl|(simp only[aO,seval,-Int.reduceToNat,q4a,q4b,q4c,q4d,q4e,ax26,Zf]<;>rfl)
       ·rintro x t H e hx
        obtain⟨l8fx,rfl⟩:∃z,z=o35:=⟨_,rfl⟩
        dsimp only at hx hh
        obtain⟨rfl,⟨v8fx,Zfx⟩⟩:=hx
        cases hh
        try simp only[aO,seval,-Int.reduceToNat,q4a,q4b,q4c,q4d,q4e,ax26,Zfx]
        refine jB ?_
        refine⟨v8fx,?_,?_,?_,?_,?_,?_,?_⟩
        all_goals first|rfl|(simp only[aO,seval,-Int.reduceToNat,q4a,q4b,q4c,q4d,q4e,ax26,Zfx]<;>rfl)
     ·clear hh
      have hh:=ho27
      try simp only[aO,seval,-Int.reduceToNat,q4a,q4b,q4c,q4d,q4e,Zb,ax26]
      refine sp aU hh (fun _ hh =>?_) (fun _ hh =>?_)
      ·cases hh
       try simp only[aO,seval,-Int.reduceToNat,q4a,q4b,q4c,q4d,q4e,Zb,ax26]
       rw[ak]
       refine⟨_,rfl,?_⟩
       refine⟨v8b,?_,?_,?_,?_,?_,?_,?_,?_,?_⟩
       all_goals first|rfl|(simp only[aO,seval,-Int.reduceToNat,q4a,q4b,q4c,q4d,q4e,Zb,ax26]<;>rfl)
      ·obtain⟨r43,hr43,hh⟩:=ae hh
       cases hh
       try simp only[aO,seval,-Int.reduceToNat,q4a,q4b,q4c,q4d,q4e,Zb,ax26,hr43]
       rw[ak]
       refine⟨_,rfl,?_⟩
       refine⟨v8b,?_,?_,?_,?_,?_,?_,?_,?_,?_⟩
       all_goals first|rfl|(simp only[aO,seval,-Int.reduceToNat,q4a,q4b,q4c,q4d,q4e,Zb,ax26,hr43]<;>rfl)
    ·cases hh
     try simp only[aO,seval,-Int.reduceToNat,q4a,q4b,q4c,q4d,q4e,Zb]
     refine kH ?_
     refine⟨rfl,⟨v8b,?_,?_⟩⟩
     all_goals first|rfl|(simp only[aO,seval,-Int.reduceToNat,q4a,q4b,q4c,q4d,q4e,Zb]<;>rfl)
   ·rintro x t H e hx
    rcases o24 with l8bx|rb
    ·dsimp only at hx hh
     obtain⟨rfl,⟨v8bx,Zbx⟩⟩:=hx
     cases hh
     try simp only[aO,seval,-Int.reduceToNat,q4a,q4b,q4c,q4d,q4e,Zbx]
    ·dsimp only at hx hh
     obtain⟨rfl,hE⟩:=hx
     cases hh
     try simp only[bq,bj,bF,dr,dq]
     exact hE
 ·clear hh
  have hh:=ho1
  try simp only[aO,seval,-Int.reduceToNat]
  refine sp aU hh (fun _ hh =>?_) (fun _ hh =>?_)
  ·cases hh
   try simp only[aO,seval,-Int.reduceToNat]
   rw[ak]
   refine⟨_,rfl,?_⟩
   refine⟨?_,?_,?_,?_⟩
   all_goals first|rfl|(simp only[aO,seval,-Int.reduceToNat]<;>rfl)
  ·try simp only[aO,seval,-Int.reduceToNat]
   refine sp aU hh (fun _ hh =>?_) (fun _ hh =>?_)
   ·cases hh
    try simp only[aO,seval,-Int.reduceToNat]
    rw[ak]
    refine⟨_,rfl,?_⟩
    refine⟨?_,?_,?_,?_⟩
    all_goals first|rfl|(simp only[aO,seval,-Int.reduceToNat]<;>rfl)
   ·try simp only[aO,seval,-Int.reduceToNat]
    refine sp aU hh (fun _ hh =>?_) (fun _ hh =>?_)
    ·cases hh
     try simp only[aO,seval,-Int.reduceToNat]
     rw[ak]
     refine⟨_,rfl,?_⟩
     refine⟨?_,?_,?_,?_⟩
     all_goals first|rfl|(simp only[aO,seval,-Int.reduceToNat]<;>rfl)
    ·try simp only[aO,seval,-Int.reduceToNat]
     refine sp aU hh (fun _ hh =>?_) (fun _ hh =>?_)
     ·cases hh
      try simp only[aO,seval,-Int.reduceToNat]
      rw[ak]
      refine⟨_,rfl,?_⟩
      refine⟨?_,?_,?_,?_⟩
      all_goals first|rfl|(simp only[aO,seval,-Int.reduceToNat]<;>rfl)
     ·cases hh
      try simp only[aO,seval,-Int.reduceToNat]
      rw[ak]
      refine⟨_,rfl,?_⟩
      refine⟨?_,?_,?_,?_⟩
      all_goals first|rfl|(simp only[aO,seval,-Int.reduceToNat]<;>rfl)
theorem HY:bH Tryz.prog 82 s7:=bH.of (mode := .clean) tok Hq mixed Tryz.func82 (by kernel_rfl) ⟨by kernel_rfl,by kernel_rfl⟩ (fun _=>Nat.le_of_ble_eq_true (by kernel_rfl)) (fun x r h=>KI x.1 x.2.1 x.2.2 r h)
noncomputable def mS:=eL (dJ (iE (eI .i64))) (fun x:(List Int)=>jS x) (fun r:(List Int) =>.clean (.clo 156 0 [.ip [.sl false false r.length (ab (eI .i64) r)]]))
theorem sI (p0:(List Int)):mS none [.sl false false p0.length (ab (eI .i64) p0)]=(jS p0).map fun r:(List Int)=>(.clean (.clo 156 0 [.ip [.sl false false r.length (ab (eI .i64) r)]]),none):=aK _ _ _ p0
theorem zd:bH Tryz.prog 116 mS:=Rs
noncomputable def dk:=eL (dJ (RS 156 0 (dJ (RU (qG (eI .i64)))))) (fun x:(List Int)=>b6 x) (fun r:(List Int) =>.fresh 3 1 r.length (ab (eI .i64) r))
theorem eW (p0:(List Int)):dk none [.clo 156 0 [.ip [.sl false false p0.length (ab (eI .i64) p0)]]]=(b6 p0).map fun r:(List Int)=>(.fresh 3 1 r.length (ab (eI .i64) r),none):=aK _ _ _ p0
theorem iX:bH Tryz.prog 115 dk:=Rh
noncomputable def qN:=eL (dJ (iE (eI .i64))) (fun x:(List Int)=>jn x) (fun r:Bool =>.clean (.bool r))
theorem xX (p0:(List Int)):qN none [.sl false false p0.length (ab (eI .i64) p0)]=(jn p0).map fun r:Bool=>(.clean (.bool r),none):=aK _ _ _ (p0)
noncomputable def nG:Env:=(Am.ext (Am.ext (Am.ext aS 70 true iu) 115 false dk) 116 false mS)
theorem D8:bN Tryz.prog nG:=(((bN.none.add nh true).add iX false).add zd false)
theorem Iq:type_of% (ai @w<|ai @eW<|ai @sI<|@nG.eq_1):=⟨@w,@eW,@sI,@nG.eq_1⟩
theorem HE (p0:(List Int)) (r:Bool) (hh:jn p0=some r):aQ .clean tab nG FU Tryz.f83 none [.sl false false p0.length (ab (eI .i64) p0)]=some (.clean (.bool r),none):=by
 refine av rfl Tryz.ntmps83 Tryz.results83 ?_
 unfold jn at hh
 obtain⟨r1,hr1,hh⟩:=ae hh
 obtain⟨r2,hr2,hh⟩:=ae hh
 have i3:=oQ [] [] r2
 try simp only[List.nil_append,List.append_nil,List.length_nil,aP,List.length_set,bU]at i3
 obtain⟨r4,hr4,hh⟩:=ae hh
 cases hh
 try simp only[Iq,seval,-Int.reduceToNat,hr1,hr2,i3,hr4]
theorem Ey:bH Tryz.prog 83 qN:=bH.of (mode := .clean) tok D8 mixed Tryz.func83 (by kernel_rfl) ⟨by kernel_rfl,by kernel_rfl⟩ (fun _=>Nat.le_of_ble_eq_true (by kernel_rfl)) (fun x r h=>HE x r h)
noncomputable def s6:=eL (ec (cJ ep) (ec (iE (eI .i64)) (ec (iE (qG (eI .i64))) (ec (iE (eI .i64)) (ec (aI .i64) (dJ (aI .i64))))))) (fun x:ax×(List Int)×(List (List Int))×(List Int)×Int×Int=>kA x.1 x.2.1 x.2.2.1 x.2.2.2.1 x.2.2.2.2.1 x.2.2.2.2.2) (fun r:(List Int)×Int =>.clean (.tup [.sl false false r.1.length (ab (eI .i64) r.1),.int .i64 r.2]))
theorem Af (p0_0:(List al)) (p1:(List Int)) (p2:(List (List Int))) (p3:(List Int)) (p4:Int) (p5:Int):s6 none [.agg [.sl false false p0_0.length (ab aq p0_0)],.sl false false p1.length (ab (eI .i64) p1),.sl false false p2.length (ab (qG (eI .i64)) p2),.sl false false p3.length (ab (eI .i64) p3),.int .i64 p4,.int .i64 p5]=(kA (ax.mk p0_0) p1 p2 p3 p4 p5).map fun r:(List Int)×Int=>(.clean (.tup [.sl false false r.1.length (ab (eI .i64) r.1),.int .i64 r.2]),none):=aK _ _ _ ((ax.mk p0_0),p1,p2,p3,p4,p5)
noncomputable def pA:Env:=(Am.ext (Am.ext (Am.ext (Am.ext aS 21 false pd) 82 false s7) 83 false qN) 84 false lZ)
theorem Hp:bN Tryz.prog pA:=((((bN.none.add xU false).add HY false).add Ey false).add ue false)
theorem bQ:type_of% (ai @w<|ai @mG<|ai @Ag<|ai @xX<|ai @mn<|@pA.eq_1):=⟨@w,@mG,@Ag,@xX,@mn,@pA.eq_1⟩
theorem KH (p0:ax) (p1:(List Int)) (p2:(List (List Int))) (p3:(List Int)) (p4:Int) (p5:Int) (r:(List Int)×Int) (hh:kA p0 p1 p2 p3 p4 p5=some r):aQ .clean tab pA FU Tryz.f47 none [.agg [.sl false false p0.ah.length (ab aq p0.ah)],.sl false false p1.length (ab (eI .i64) p1),.sl false false p2.length (ab (qG (eI .i64)) p2),.sl false false p3.length (ab (eI .i64) p3),.int .i64 p4,.int .i64 p5]=some (.clean (.tup [.sl false false r.1.length (ab (eI .i64) r.1),.int .i64 r.2]),none):=by
 refine av rfl Tryz.ntmps47 Tryz.results47 ?_
 unfold kA at hh
 obtain⟨r1,hr1,hh⟩:=ae hh
 try simp only[bQ,seval,-Int.reduceToNat,hr1]
 refine sp aj hh (fun _ hh =>?_) (fun _ hh =>?_)
 ·cases hh
  try simp only[bQ,seval,-Int.reduceToNat,hr1]
 ·try simp only[bQ,seval,-Int.reduceToNat,hr1]
  obtain⟨o3,ho3,hh⟩:=ae hh
  refine bD 0 (fun s t H e=>match s with|s29j1=>∃v6j1:Nat,t 1=.sl false false p1.length (ab (eI .i64) p1)∧t 2=.sl false false p2.length (ab (qG (eI .i64)) p2)∧t 3=.sl false false p3.length (ab (eI .i64) p3)∧t 6=.ptr 6 v6j1 0∧t 14=.sl false false r1.1.length (ab (eI .i64) r1.1)∧t 29=.bool s29j1∧H 6=some ⟨v6j1,24,[.sl false false p0.ah.length (ab aq p0.ah)],false,false,false⟩) (fun s=>s=o3) ?_ ?_
  ·rintro s29j1 t H e ⟨v6j1,Zj1⟩ rfl
   try dsimp only at hh
   try simp only[bQ,seval,-Int.reduceToNat,hr1,Zj1]
   refine sp aj hh (fun _ hh =>?_) (fun _ hh =>?_)
   ·cases hh
    try simp only[bQ,seval,-Int.reduceToNat,hr1,Zj1]
   ·obtain⟨r5,hr5,hh⟩:=ae hh
    try simp only[bQ,seval,-Int.reduceToNat,hr1,Zj1,hr5]
    refine sp aj hh (fun _ hh =>?_) (fun _ hh =>?_)
    ·cases hh
     try simp only[bQ,seval,-Int.reduceToNat,hr1,Zj1,hr5]
    ·try simp only[bQ,seval,-Int.reduceToNat,hr1,Zj1,hr5]
     obtain⟨o14,ho14,hh⟩:=ae hh
     refine aA (fun s t H e=>match s with|s47b=>∃v6b:Nat,t 2=.sl false false p2.length (ab (qG (eI .i64)) p2)∧t 3=.sl false false p3.length (ab (eI .i64) p3)∧t 6=.ptr 6 v6b 0∧t 14=.sl false false r1.1.length (ab (eI .i64) r1.1)∧t 45=.sl false false p1.length (ab (eI .i64) p1)∧t 46=.int .i64 (p1.length:Int)∧t 47=.int .i64 s47b∧H 6=some ⟨v6b,24,[.sl false false p0.ah.length (ab aq p0.ah)],false,false,false⟩) (fun o x t H e=>match o with|(.inl _)=>x=.exit 1∧t 14=.sl false false r1.1.length (ab (eI .i64) r1.1)|(.inr r)=>x=.ret∧gW .clean tab none [.tmp 12,.tmp 13] ⟨t,H,e⟩=some (.clean (.tup [.sl false false r.1.length (ab (eI .i64) r.1),.int .i64 r.2]),none)) ho14 ?_ ?_ ?_
     ·refine⟨v6j1,?_,?_,?_,?_,?_,?_,?_,?_⟩
      all_goals first|rfl|(simp only[bQ,seval,-Int.reduceToNat,hr1,Zj1,hr5]<;>rfl)
     ·rintro s47b t H e ⟨v6b,Zb⟩ c hh
      simp only[ly]at hh
      try simp only[bQ,seval,-Int.reduceToNat,hr1,hr5,Zb]
      refine sp aj hh (fun _ hh =>?_) (fun _ hh =>?_)
      ·obtain⟨x16,hx16,hh⟩:=ae hh
       have ax16:=bG (eI .i64) hx16
       simp only[bU]at ax16
       obtain⟨x17,hx17,hh⟩:=ae hh
       have ax17:=bG (qG (eI .i64)) hx17
       simp only[bU]at ax17
       obtain⟨r18,hr18,hh⟩:=ae hh
       obtain⟨x19,hx19,hh⟩:=ae hh
       have ax19:=bG (eI .i64) hx19
       simp only[bU]at ax19
       obtain⟨r20,hr20,hh⟩:=ae hh
       try simp only[bQ,seval,-Int.reduceToNat,hr1,hr5,Zb,ax16,ax17,hr18,ax19,hr20]
       refine bI (by kernel_rfl) ?_
       try simp only[bQ,seval,-Int.reduceToNat,hr1,hr5,Zb,ax16,ax17,hr18,ax19,hr20]
       refine sp aj hh (fun _ hh =>?_) (fun _ hh =>?_)
       ·cases hh
        try simp only[bQ,seval,-Int.reduceToNat,hr1,hr5,Zb,ax16,ax17,hr18,ax19,hr20]
        refine yZ ⟨rfl,?_⟩
        try simp only[bQ,seval,-Int.reduceToNat,hr1,hr5,Zb,ax16,ax17,hr18,ax19,hr20]
       ·cases hh
        try simp only[bQ,seval,-Int.reduceToNat,hr1,hr5,Zb,ax16,ax17,hr18,ax19,hr20]
        refine jB ?_
        refine⟨v6b,?_,?_,?_,?_,?_,?_,?_,?_⟩
        all_goals first|rfl|(simp only[bQ,seval,-Int.reduceToNat,hr1,hr5,Zb,ax16,ax17,hr18,ax19,hr20]<;>rfl)
      ·cases hh
       try simp only[bQ,seval,-Int.reduceToNat,hr1,hr5,Zb]
       refine kH ?_
       refine⟨rfl,?_⟩
       all_goals first|rfl|(simp only[bQ,seval,-Int.reduceToNat,hr1,hr5,Zb]<;>rfl)
     ·rintro x t H e hx
      rcases o14 with _|rb
      ·dsimp only at hx hh
       obtain⟨rfl,Zbx⟩:=hx
       cases hh
       try simp only[bQ,seval,-Int.reduceToNat,hr1,hr5,Zbx]
      ·dsimp only at hx hh
       obtain⟨rfl,hE⟩:=hx
       cases hh
       try simp only[bq,bj,bF,dr,dq]
       exact hE
  ·clear hh
   have hh:=ho3
   try simp only[bQ,seval,-Int.reduceToNat,hr1]
   refine sp aU hh (fun _ hh =>?_) (fun _ hh =>?_)
   ·cases hh
    try simp only[bQ,seval,-Int.reduceToNat,hr1]
    rw[ak]
    refine⟨_,rfl,?_⟩
    refine⟨0,?_,?_,?_,?_,?_,?_,?_⟩
    all_goals first|rfl|(simp only[bQ,seval,-Int.reduceToNat,hr1]<;>rfl)
   ·cases hh
    try simp only[bQ,seval,-Int.reduceToNat,hr1]
    rw[ak]
    refine⟨_,rfl,?_⟩
    refine⟨0,?_,?_,?_,?_,?_,?_,?_⟩
    all_goals first|rfl|(simp only[bQ,seval,-Int.reduceToNat,hr1]<;>rfl)
theorem HX:bH Tryz.prog 47 s6:=bH.of (mode := .clean) tok Hp mixed Tryz.func47 (by kernel_rfl) ⟨by kernel_rfl,by kernel_rfl⟩ (fun _=>Nat.le_of_ble_eq_true (by kernel_rfl)) (fun x r h=>KH x.1 x.2.1 x.2.2.1 x.2.2.2.1 x.2.2.2.2.1 x.2.2.2.2.2 r h)
theorem W7:RF Tryz.prog 85 (3,1,8):=QA Tryz.Xa Tryz.func85 ⟨by kernel_rfl,by kernel_rfl⟩
noncomputable def s5:=eL (ec (iE (eI .i64)) (dJ (aI .i64))) (fun x:(List Int)×Int=>oh x.1 x.2) (fun r:(List Int)×Int =>.clean (.tup [.sl false false r.1.length (ab (eI .i64) r.1),.int .i64 r.2]))
theorem Ae (p0:(List Int)) (p1:Int):s5 none [.sl false false p0.length (ab (eI .i64) p0),.int .i64 p1]=(oh p0 p1).map fun r:(List Int)×Int=>(.clean (.tup [.sl false false r.1.length (ab (eI .i64) r.1),.int .i64 r.2]),none):=aK _ _ _ (p0,p1)
noncomputable def pz:Env:=(Am.CD 85 (3,1,8) (Am.ext aS 23 false np))
theorem Ho:bN Tryz.prog pz:=(bN.CD (bN.none.add vZ false) W7)
theorem cp:type_of% (ai @w<|ai @nU<|@pz.eq_1):=⟨@w,@nU,@pz.eq_1⟩
theorem KG (p0:(List Int)) (p1:Int) (r:(List Int)×Int) (hh:oh p0 p1=some r):aQ .clean tab pz FU Tryz.f48 none [.sl false false p0.length (ab (eI .i64) p0),.int .i64 p1]=some (.clean (.tup [.sl false false r.1.length (ab (eI .i64) r.1),.int .i64 r.2]),none):=by
 refine av rfl Tryz.ntmps48 Tryz.results48 ?_
 unfold oh at hh
 obtain⟨r1,hr1,hh⟩:=ae hh
 try simp only[cp,ne_eq,not_false_eq_true,seval,-Int.reduceToNat,hr1]
 refine sp aj hh (fun _ hh =>?_) (fun _ hh =>?_)
 ·cases hh
  try simp only[cp,ne_eq,not_false_eq_true,seval,-Int.reduceToNat,hr1]
 ·obtain⟨x3,hx3,hh⟩:=ae hh
  obtain⟨q4a,q4b,q4c,q4d,q4e,q4f,q4g⟩:=Xc (eI .i64) hx3
  simp only[bU]at q4d
  try simp only[cp,ne_eq,not_false_eq_true,seval,-Int.reduceToNat,hr1,q4a,q4b,q4c,q4d,q4e,q4f,q4g]
  obtain⟨o18,ho18,hh⟩:=ae hh
  refine aA (fun s t H e=>match s with|(s20a,l6a,l7a)=>∃v6a:Nat,∃v7a:Nat,t 6=.buf 6 v6a 1 0 (l6a).length∧t 7=.buf 7 v7a 1 0 (l7a).length∧t 18=.sl false false p0.length (ab (eI .i64) p0)∧t 19=.int .i64 (p0.length:Int)∧t 20=.int .i64 s20a∧H 6=some ⟨v6a,3,ab (eI .i64) l6a,false,true,false⟩∧H 7=some ⟨v7a,3,ab (eI .i64) l7a,false,true,false⟩) (fun o x t H e=>match o with|l6ax=>x=.exit 0∧∃v6ax:Nat,t 6=.buf 6 v6ax 1 0 (l6ax).length∧H 6=some ⟨v6ax,3,ab (eI .i64) l6ax,false,true,false⟩) ho18 ?_ ?_ ?_
  ·refine⟨2,3,?_,?_,?_,?_,?_,?_,?_⟩
   all_goals first|rfl|(simp only[cp,ne_eq,not_false_eq_true,seval,-Int.reduceToNat,hr1,q4a,q4b,q4c,q4d,q4e,q4f,q4g]<;>rfl)
  ·rintro⟨s20a,l6a,l7a⟩ t H e ⟨v6a,v7a,Za⟩ c hh
   simp only[yh]at hh
   try simp only[cp,ne_eq,not_false_eq_true,seval,-Int.reduceToNat,hr1,q4a,q4b,q4c,q4d,q4e,q4f,q4g,Za]
   refine sp aj hh (fun _ hh =>?_) (fun _ hh =>?_)
   ·obtain⟨x20,hx20,hh⟩:=ae hh
    have ax20:=bG (eI .i64) hx20
    simp only[bU]at ax20
    try simp only[cp,ne_eq,not_false_eq_true,seval,-Int.reduceToNat,hr1,q4a,q4b,q4c,q4d,q4e,q4f,q4g,Za,ax20]
    obtain⟨o24,ho24,hh⟩:=ae hh
    refine aA (fun s t H e=>match s with|(s9c,s10c)=>∃v6c:Nat,∃v7c:Nat,t 6=.buf 6 v6c 1 0 (l6a).length∧t 7=.buf 7 v7c 1 0 (l7a).length∧t 9=.int .i64 s9c∧t 10=.int .i64 s10c∧t 18=.sl false false p0.length (ab (eI .i64) p0)∧t 19=.int .i64 (p0.length:Int)∧t 20=.int .i64 s20a∧H 6=some ⟨v6c,3,ab (eI .i64) l6a,false,true,false⟩∧H 7=some ⟨v7c,3,ab (eI .i64) l7a,false,true,false⟩) (fun o x t H e=>match o with|(s9cx,s10cx)=>x=.exit 2∧∃v6cx:Nat,∃v7cx:Nat,t 6=.buf 6 v6cx 1 0 (l6a).length∧t 7=.buf 7 v7cx 1 0 (l7a).length∧t 9=.int .i64 s9cx∧t 10=.int .i64 s10cx∧t 18=.sl false false p0.length (ab (eI .i64) p0)∧t 19=.int .i64 (p0.length:Int)∧t 20=.int .i64 s20a∧H 6=some ⟨v6cx,3,ab (eI .i64) l6a,false,true,false⟩∧H 7=some ⟨v7cx,3,ab (eI .i64) l7a,false,true,false⟩) ho24 ?_ ?_ ?_
    ·refine⟨v6a,v7a,?_,?_,?_,?_,?_,?_,?_,?_,?_⟩
     all_goals first|rfl|(simp only[cp,ne_eq,not_false_eq_true,seval,-Int.reduceToNat,hr1,q4a,q4b,q4c,q4d,q4e,q4f,q4g,Za,ax20]<;>rfl)
    ·rintro⟨s9c,s10c⟩ t H e ⟨v6c,v7c,Zc⟩ c hh
     simp only[yi]at hh
     try simp only[cp,ne_eq,not_false_eq_true,seval,-Int.reduceToNat,hr1,q4a,q4b,q4c,q4d,q4e,q4f,q4g,ax20,Zc]
     refine sp bJ hh (fun _ hh =>?_) (fun _ hh =>?_)
     ·obtain⟨x26,hx26,hh⟩:=ae hh
      have ax26:=bG (eI .i64) hx26
      simp only[bU]at ax26
      try simp only[cp,ne_eq,not_false_eq_true,seval,-Int.reduceToNat,hr1,q4a,q4b,q4c,q4d,q4e,q4f,q4g,ax20,Zc,ax26]
      refine sp aj hh (fun _ hh =>?_) (fun _ hh =>?_)
      ·cases hh
       try simp only[cp,ne_eq,not_false_eq_true,seval,-Int.reduceToNat,hr1,q4a,q4b,q4c,q4d,q4e,q4f,q4g,ax20,Zc,ax26]
       refine jB ?_
       refine⟨v6c,v7c,?_,?_,?_,?_,?_,?_,?_,?_,?_⟩
       all_goals first|rfl|(simp only[cp,ne_eq,not_false_eq_true,seval,-Int.reduceToNat,hr1,q4a,q4b,q4c,q4d,q4e,q4f,q4g,ax20,Zc,ax26]<;>rfl)
      ·cases hh
       try simp only[cp,ne_eq,not_false_eq_true,seval,-Int.reduceToNat,hr1,q4a,q4b,q4c,q4d,q4e,q4f,q4g,ax20,Zc,ax26]
       refine kH ?_
       refine⟨rfl,⟨v6c,v7c,?_,?_,?_,?_,?_,?_,?_,?_,?_⟩⟩
       all_goals first|rfl|(simp only[cp,ne_eq,not_false_eq_true,seval,-Int.reduceToNat,hr1,q4a,q4b,q4c,q4d,q4e,q4f,q4g,ax20,Zc,ax26]<;>rfl)
     ·cases hh
      try simp only[cp,ne_eq,not_false_eq_true,seval,-Int.reduceToNat,hr1,q4a,q4b,q4c,q4d,q4e,q4f,q4g,ax20,Zc]
      refine kH ?_
      refine⟨rfl,⟨v6c,v7c,?_,?_,?_,?_,?_,?_,?_,?_,?_⟩⟩
      all_goals first|rfl|(simp only[cp,ne_eq,not_false_eq_true,seval,-Int.reduceToNat,hr1,q4a,q4b,q4c,q4d,q4e,q4f,q4g,ax20,Zc]<;>rfl)
    ·rintro x t H e hx
     rcases o24 with⟨s9cx,s10cx⟩
     dsimp only at hx hh
     obtain⟨rfl,⟨v6cx,v7cx,Zcx⟩⟩:=hx
     obtain⟨x28,hx28,hh⟩:=ae hh
     obtain⟨q29a,q29b,q29c,q29d⟩:=fi (eI .i64) hx28
     simp only[bU]at q29b
     obtain⟨x30,hx30,hh⟩:=ae hh
     obtain⟨q31a,q31b,q31c,q31d,q31e⟩:=Vn (eI .i64) hx30
     simp only[bU]at q31e
     cases hh
     try simp only[cp,ne_eq,not_false_eq_true,seval,-Int.reduceToNat,hr1,q4a,q4b,q4c,q4d,q4e,q4f,q4g,ax20,Zcx,q29a,q29b,q29c,q29d,q31a,q31b,q31c,q31d,q31e]
     refine jB ?_
     refine⟨e,e,?_,?_,?_,?_,?_,?_,?_⟩
     all_goals first|rfl|(simp only[cp,ne_eq,not_false_eq_true,seval,-Int.reduceToNat,hr1,q4a,q4b,q4c,q4d,q4e,q4f,q4g,ax20,Zcx,q29a,q29b,q29c,q29d,q31a,q31b,q31c,q31d,q31e]<;>rfl)
   ·cases hh
    try simp only[cp,ne_eq,not_false_eq_true,seval,-Int.reduceToNat,hr1,q4a,q4b,q4c,q4d,q4e,q4f,q4g,Za]
    refine kH ?_
    refine⟨rfl,⟨v6a,?_,?_⟩⟩
    all_goals first|rfl|(simp only[cp,ne_eq,not_false_eq_true,seval,-Int.reduceToNat,hr1,q4a,q4b,q4c,q4d,q4e,q4f,q4g,Za]<;>rfl)
  ·rintro x t H e hx
   obtain⟨l6ax,rfl⟩:∃z,z=o18:=⟨_,rfl⟩
   dsimp only at hx hh
   obtain⟨rfl,⟨v6ax,Zax⟩⟩:=hx
   cases hh
   try simp only[cp,ne_eq,not_false_eq_true,seval,-Int.reduceToNat,hr1,q4a,q4b,q4c,q4d,q4e,q4f,q4g,Zax]
theorem HW:bH Tryz.prog 48 s5:=bH.of (mode := .clean) tok Ho mixed Tryz.func48 (by kernel_rfl) ⟨by kernel_rfl,by kernel_rfl⟩ (fun _=>Nat.le_of_ble_eq_true (by kernel_rfl)) (fun x r h=>KG x.1 x.2 r h)
noncomputable def pT:=eL (ec (cJ ep) (ec (iE (eI .i64)) (ec (iE (qG (eI .i64))) (ec (iE (eI .i64)) (ec (iE (eI .i64)) (dJ (aI .i64))))))) (fun x:ax×(List Int)×(List (List Int))×(List Int)×(List Int)×Int=>jf x.1 x.2.1 x.2.2.1 x.2.2.2.1 x.2.2.2.2.1 x.2.2.2.2.2) (fun r:(List Int)×Int =>.clean (.tup [.sl false false r.1.length (ab (eI .i64) r.1),.int .i64 r.2]))
theorem pY (p0_0:(List al)) (p1:(List Int)) (p2:(List (List Int))) (p3:(List Int)) (p4:(List Int)) (p5:Int):pT none [.agg [.sl false false p0_0.length (ab aq p0_0)],.sl false false p1.length (ab (eI .i64) p1),.sl false false p2.length (ab (qG (eI .i64)) p2),.sl false false p3.length (ab (eI .i64) p3),.sl false false p4.length (ab (eI .i64) p4),.int .i64 p5]=(jf (ax.mk p0_0) p1 p2 p3 p4 p5).map fun r:(List Int)×Int=>(.clean (.tup [.sl false false r.1.length (ab (eI .i64) r.1),.int .i64 r.2]),none):=aK _ _ _ ((ax.mk p0_0),p1,p2,p3,p4,p5)
noncomputable def l5:Env:=(Am.ext (Am.ext (Am.ext aS 42 false lV) 47 false s6) 48 false s5)
theorem Cp:bN Tryz.prog l5:=(((bN.none.add ua false).add HX false).add HW false)
theorem dy:type_of% (ai @w<|ai @mi<|ai @Af<|ai @Ae<|@l5.eq_1):=⟨@w,@mi,@Af,@Ae,@l5.eq_1⟩
theorem Eh (p0:ax) (p1:(List Int)) (p2:(List (List Int))) (p3:(List Int)) (p4:(List Int)) (p5:Int) (r:(List Int)×Int) (hh:jf p0 p1 p2 p3 p4 p5=some r):aQ .clean tab l5 FU Tryz.f15 none [.agg [.sl false false p0.ah.length (ab aq p0.ah)],.sl false false p1.length (ab (eI .i64) p1),.sl false false p2.length (ab (qG (eI .i64)) p2),.sl false false p3.length (ab (eI .i64) p3),.sl false false p4.length (ab (eI .i64) p4),.int .i64 p5]=some (.clean (.tup [.sl false false r.1.length (ab (eI .i64) r.1),.int .i64 r.2]),none):=by
 refine av rfl Tryz.ntmps15 Tryz.results15 ?_
 unfold jf at hh
 obtain⟨r1,hr1,hh⟩:=ae hh
 try simp only[dy,seval,-Int.reduceToNat,hr1]
 refine sp aj hh (fun _ hh =>?_) (fun _ hh =>?_)
 ·cases hh
  try simp only[dy,seval,-Int.reduceToNat,hr1]
 ·obtain⟨r3,hr3,hh⟩:=ae hh
  try simp only[dy,seval,-Int.reduceToNat,hr1,hr3]
  refine sp aj hh (fun _ hh =>?_) (fun _ hh =>?_)
  ·cases hh
   try simp only[dy,seval,-Int.reduceToNat,hr1,hr3]
  ·obtain⟨r5,hr5,hh⟩:=ae hh
   try simp only[dy,seval,-Int.reduceToNat,hr1,hr3,hr5]
   obtain⟨o11,ho11,hh⟩:=ae hh
   refine aA (fun s t H e=>match s with|(s46a,l18a)=>∃v18a:Nat,t 4=.sl false false p4.length (ab (eI .i64) p4)∧t 18=.buf 18 v18a 1 0 (l18a).length∧t 44=.sl false false r5.1.length (ab (eI .i64) r5.1)∧t 45=.int .i64 (r5.1.length:Int)∧t 46=.int .i64 s46a∧H 18=some ⟨v18a,3,ab (eI .i64) l18a,false,true,false⟩) (fun o x t H e=>match o with|l18ax=>x=.exit 0∧∃v18ax:Nat,t 18=.buf 18 v18ax 1 0 (l18ax).length∧H 18=some ⟨v18ax,3,ab (eI .i64) l18ax,false,true,false⟩) ho11 ?_ ?_ ?_
   ·refine⟨5,?_,?_,?_,?_,?_,?_⟩
    all_goals first|rfl|(simp only[dy,seval,-Int.reduceToNat,hr1,hr3,hr5]<;>rfl)
   ·rintro⟨s46a,l18a⟩ t H e ⟨v18a,Za⟩ c hh
    simp only[ou]at hh
    try simp only[dy,seval,-Int.reduceToNat,hr1,hr3,hr5,Za]
    refine sp aj hh (fun _ hh =>?_) (fun _ hh =>?_)
    ·obtain⟨x13,hx13,hh⟩:=ae hh
     have ax13:=bG (eI .i64) hx13
     simp only[bU]at ax13
     obtain⟨x14,hx14,hh⟩:=ae hh
     have ax14:=bG (eI .i64) hx14
     simp only[bU]at ax14
     obtain⟨x15,hx15,hh⟩:=ae hh
     obtain⟨q16a,q16b,q16c,q16d⟩:=fi (eI .i64) hx15
     simp only[bU]at q16b
     cases hh
     try simp only[dy,seval,-Int.reduceToNat,hr1,hr3,hr5,Za,ax13,ax14,q16a,q16b,q16c,q16d]
     refine jB ?_
     refine⟨e+1+1,?_,?_,?_,?_,?_,?_⟩
     all_goals first|rfl|(simp only[dy,seval,-Int.reduceToNat,hr1,hr3,hr5,Za,ax13,ax14,q16a,q16b,q16c,q16d]<;>rfl)
    ·cases hh
     try simp only[dy,seval,-Int.reduceToNat,hr1,hr3,hr5,Za]
     refine kH ?_
     refine⟨rfl,⟨v18a,?_,?_⟩⟩
     all_goals first|rfl|(simp only[dy,seval,-Int.reduceToNat,hr1,hr3,hr5,Za]<;>rfl)
   ·rintro x t H e hx
    obtain⟨l18ax,rfl⟩:∃z,z=o11:=⟨_,rfl⟩
    dsimp only at hx hh
    obtain⟨rfl,⟨v18ax,Zax⟩⟩:=hx
    cases hh
    try simp only[dy,seval,-Int.reduceToNat,hr1,hr3,hr5,Zax]
theorem CW:bH Tryz.prog 15 pT:=bH.of (mode := .clean) tok Cp mixed Tryz.func15 (by kernel_rfl) ⟨by kernel_rfl,by kernel_rfl⟩ (fun _=>Nat.le_of_ble_eq_true (by kernel_rfl)) (fun x r h=>Eh x.1 x.2.1 x.2.2.1 x.2.2.2.1 x.2.2.2.2.1 x.2.2.2.2.2 r h)
noncomputable def sX:=eL (UR) (fun x:Unit=>lL) (fun r:Bool =>.clean (.bool r))
theorem Ac:sX none []=(lL).map fun r:Bool=>(.clean (.bool r),none):=aK _ _ _ ()
noncomputable def pr:Env:=(Am.ext (Am.ext (Am.ext (Am.ext (Am.ext (Am.ext (Am.ext (Am.ext aS 13 false jG) 15 false pT) 18 false oq) 20 false qS) 21 false pd) 35 false lX) 37 false nq) 38 false wF)
theorem Hl:bN Tryz.prog pr:=((((((((bN.none.add oM false).add CW false).add AT false).add EC false).add xU false).add uc false).add v7 false).add K7 false)
theorem bc:type_of% (ai @w<|ai @fJ<|ai @pY<|ai @lk<|ai @yc<|ai @mG<|ai @ml<|ai @lp<|ai @lO<|@pr.eq_1):=⟨@w,@fJ,@pY,@lk,@yc,@mG,@ml,@lp,@lO,@pr.eq_1⟩
theorem KA (r:Bool) (hh:lL=some r):aQ .clean tab pr FU Tryz.f9 none []=some (.clean (.bool r),none):=by
 refine av rfl Tryz.ntmps9 Tryz.results9 ?_
 unfold lL at hh
 have i1:=lp ([]) ([ByteArray.mk #[97],ByteArray.mk #[98],ByteArray.mk #[99]]) ([30,20,10]) ([7,8,9])
 simp only[aP,bU,List.length_cons,List.length_nil,Nat.zero_add,Nat.reduceAdd,List.length_set]at i1
 obtain⟨r2,hr2,hh⟩:=ae hh
 try simp only[bc,seval,-Int.reduceToNat,i1,hr2]
 obtain⟨o3,ho3,hh⟩:=ae hh
 refine bD 0 (fun s t H e=>match s with|s37j1=>∃v1j1:Nat,t 1=.ptr 1 v1j1 0∧t 3=.sl false false r2.2.2.1.length (ab (eI .i64) r2.2.2.1)∧t 37=.bool s37j1∧H 1=some ⟨v1j1,24,[.sl false false r2.1.ah.length (ab aq r2.1.ah)],false,false,false⟩) (fun s=>s=o3) ?_ ?_
 ·rintro s37j1 t H e ⟨v1j1,Zj1⟩ rfl
  try dsimp only at hh
  try simp only[bc,seval,-Int.reduceToNat,i1,hr2,Zj1]
  refine sp aj hh (fun _ hh =>?_) (fun _ hh =>?_)
  ·cases hh
   try simp only[bc,seval,-Int.reduceToNat,i1,hr2,Zj1]
  ·obtain⟨r5,hr5,hh⟩:=ae hh
   obtain⟨r6,hr6,hh⟩:=ae hh
   have i7:=lO r2.1.ah ([1]) 20 ([(aB.mk 1 r5)]) ([])
   simp only[aP,bU,List.length_cons,List.length_nil,Nat.zero_add,Nat.reduceAdd,List.length_set]at i7
   obtain⟨r8,hr8,hh⟩:=ae hh
   try simp only[bc,seval,-Int.reduceToNat,i1,hr2,Zj1,hr5,hr6,i7,hr8]
   obtain⟨o9,ho9,hh⟩:=ae hh
   refine bD 0 (fun s t H e=>match s with|s7j2=>∃v1j2:Nat,∃v5j2:Nat,∃v6j2:Nat,t 1=.ptr 1 v1j2 0∧t 3=.sl false false r2.2.2.1.length (ab (eI .i64) r2.2.2.1)∧t 5=.ptr 5 v5j2 0∧t 6=.ptr 6 v6j2 0∧t 7=.bool s7j2∧H 1=some ⟨v1j2,24,[.sl false false r2.1.ah.length (ab aq r2.1.ah)],false,false,false⟩∧H 5=some ⟨v5j2,55,[.int .i64 1,.int .i64 r5.aH.bx.ag,.sl false false r5.aH.bx.aa.length (ab (eI .i64) r5.aH.bx.aa),.int .i64 r5.aH.bt.ag,.sl false false r5.aH.bt.aa.length (ab (eI .i64) r5.aH.bt.aa),.int .i64 r5.az.bx.ag,.sl false false r5.az.bx.aa.length (ab (eI .i64) r5.az.bx.aa),.int .i64 r5.az.bt.ag,.sl false false r5.az.bt.aa.length (ab (eI .i64) r5.az.bt.aa)],false,false,false⟩∧H 6=some ⟨v6j2,55,[.int .i64 1,.int .i64 r6.aH.bx.ag,.sl false false r6.aH.bx.aa.length (ab (eI .i64) r6.aH.bx.aa),.int .i64 r6.aH.bt.ag,.sl false false r6.aH.bt.aa.length (ab (eI .i64) r6.aH.bt.aa),.int .i64 r6.az.bx.ag,.sl false false r6.az.bx.aa.length (ab (eI .i64) r6.az.bx.aa),.int .i64 r6.az.bt.ag,.sl false false r6.az.bt.aa.length (ab (eI .i64) r6.az.bt.aa)],false,false,false⟩) (fun s=>s=o9) ?_ ?_
   ·rintro s7j2 t H e ⟨v1j2,v5j2,v6j2,Zj2⟩ rfl
    try dsimp only at hh
    have i10:=lO r2.1.ah ([1]) 20 ([(aB.mk 1 r5),(aB.mk 1 r6)]) ([(bp.mk 1 2)])
    simp only[aP,bU,List.length_cons,List.length_nil,Nat.zero_add,Nat.reduceAdd,List.length_set]at i10
    obtain⟨r11,hr11,hh⟩:=ae hh
    have i12:=fJ r2.1.ah 4 60 24 ([1,1]) ([]) ([])
    simp only[aP,bU,List.length_cons,List.length_nil,Nat.zero_add,Nat.reduceAdd,List.length_set]at i12
    obtain⟨r13,hr13,hh⟩:=ae hh
    have i14:=mG ([2,0])
    simp only[aP,bU,List.length_cons,List.length_nil,Nat.zero_add,Nat.reduceAdd,List.length_set]at i14
    obtain⟨r15,hr15,hh⟩:=ae hh
    obtain⟨r16,hr16,hh⟩:=ae hh
    try simp only[bc,seval,-Int.reduceToNat,i1,hr2,hr5,hr6,i7,hr8,Zj2,i10,hr11,i12,hr13,i14,hr15,hr16]
    refine bI (by kernel_rfl) ?_
    have i17:=pY r16.1.ah ([r16.2.1]) ([[2,0]]) ([5]) r2.2.2.1 2
    simp only[aP,bU,List.length_cons,List.length_nil,Nat.zero_add,Nat.reduceAdd,List.length_set]at i17
    obtain⟨r18,hr18,hh⟩:=ae hh
    try simp only[bc,seval,-Int.reduceToNat,i1,hr2,hr5,hr6,i7,hr8,Zj2,i10,hr11,i12,hr13,i14,hr15,hr16,i17,hr18]
    refine sp bJ hh (fun _ hh =>?_) (fun _ hh =>?_)
    ·try simp only[bc,seval,-Int.reduceToNat,i1,hr2,hr5,hr6,i7,hr8,Zj2,i10,hr11,i12,hr13,i14,hr15,hr16,i17,hr18]
     refine sp bJ hh (fun _ hh =>?_) (fun _ hh =>?_)
     ·try simp only[bc,seval,-Int.reduceToNat,i1,hr2,hr5,hr6,i7,hr8,Zj2,i10,hr11,i12,hr13,i14,hr15,hr16,i17,hr18]
      refine sp bJ hh (fun _ hh =>?_) (fun _ hh =>?_)
      ·try simp only[bc,seval,-Int.reduceToNat,i1,hr2,hr5,hr6,i7,hr8,Zj2,i10,hr11,i12,hr13,i14,hr15,hr16,i17,hr18]
       refine sp bJ hh (fun _ hh =>?_) (fun _ hh =>?_)
       ·try simp only[bc,seval,-Int.reduceToNat,i1,hr2,hr5,hr6,i7,hr8,Zj2,i10,hr11,i12,hr13,i14,hr15,hr16,i17,hr18]
        refine sp bJ hh (fun _ hh =>?_) (fun _ hh =>?_)
        ·have i24:=lk r18.1 ([2,0])
         simp only[aP,bU,List.length_cons,List.length_nil,Nat.zero_add,Nat.reduceAdd,List.length_set]at i24
         obtain⟨r25,hr25,hh⟩:=ae hh
         cases hh
         try simp only[bc,seval,-Int.reduceToNat,i1,hr2,hr5,hr6,i7,hr8,Zj2,i10,hr11,i12,hr13,i14,hr15,hr16,i17,hr18,i24,hr25]
        ·cases hh
         try simp only[bc,seval,-Int.reduceToNat,i1,hr2,hr5,hr6,i7,hr8,Zj2,i10,hr11,i12,hr13,i14,hr15,hr16,i17,hr18]
       ·cases hh
        try simp only[bc,seval,-Int.reduceToNat,i1,hr2,hr5,hr6,i7,hr8,Zj2,i10,hr11,i12,hr13,i14,hr15,hr16,i17,hr18]
      ·cases hh
       try simp only[bc,seval,-Int.reduceToNat,i1,hr2,hr5,hr6,i7,hr8,Zj2,i10,hr11,i12,hr13,i14,hr15,hr16,i17,hr18]
     ·cases hh
      try simp only[bc,seval,-Int.reduceToNat,i1,hr2,hr5,hr6,i7,hr8,Zj2,i10,hr11,i12,hr13,i14,hr15,hr16,i17,hr18]
    ·cases hh
     try simp only[bc,seval,-Int.reduceToNat,i1,hr2,hr5,hr6,i7,hr8,Zj2,i10,hr11,i12,hr13,i14,hr15,hr16,i17,hr18]
   ·clear hh
    have hh:=ho9
    try simp only[bc,seval,-Int.reduceToNat,i1,hr2,Zj1,hr5,hr6,i7,hr8]
    refine sp bJ hh (fun _ hh =>?_) (fun _ hh =>?_)
    ·have i27:=lO r2.1.ah ([1,2]) 20 ([]) ([(bp.mk 2 0)])
     simp only[aP,bU,List.length_cons,List.length_nil,Nat.zero_add,Nat.reduceAdd,List.length_set]at i27
     obtain⟨r28,hr28,hh⟩:=ae hh
     try simp only[bc,seval,-Int.reduceToNat,i1,hr2,Zj1,hr5,hr6,i7,hr8,i27,hr28]
     refine sp bJ hh (fun _ hh =>?_) (fun _ hh =>?_)
     ·have i30:=lO r2.1.ah ([1]) 21 ([]) ([(bp.mk 1 1)])
      simp only[aP,bU,List.length_cons,List.length_nil,Nat.zero_add,Nat.reduceAdd,List.length_set]at i30
      obtain⟨r31,hr31,hh⟩:=ae hh
      cases hh
      try simp only[bc,seval,-Int.reduceToNat,i1,hr2,Zj1,hr5,hr6,i7,hr8,i27,hr28,i30,hr31]
      rw[ak]
      refine⟨_,rfl,?_⟩
      refine⟨v1j1,e,e+1,?_,?_,?_,?_,?_,?_,?_,?_⟩
      all_goals first|rfl|(simp only[bc,seval,-Int.reduceToNat,i1,hr2,Zj1,hr5,hr6,i7,hr8,i27,hr28,i30,hr31]<;>rfl)
     ·cases hh
      try simp only[bc,seval,-Int.reduceToNat,i1,hr2,Zj1,hr5,hr6,i7,hr8,i27,hr28]
      rw[ak]
      refine⟨_,rfl,?_⟩
      refine⟨v1j1,e,e+1,?_,?_,?_,?_,?_,?_,?_,?_⟩
      all_goals first|rfl|(simp only[bc,seval,-Int.reduceToNat,i1,hr2,Zj1,hr5,hr6,i7,hr8,i27,hr28]<;>rfl)
    ·cases hh
     try simp only[bc,seval,-Int.reduceToNat,i1,hr2,Zj1,hr5,hr6,i7,hr8]
     rw[ak]
     refine⟨_,rfl,?_⟩
     refine⟨v1j1,e,e+1,?_,?_,?_,?_,?_,?_,?_,?_⟩
     all_goals first|rfl|(simp only[bc,seval,-Int.reduceToNat,i1,hr2,Zj1,hr5,hr6,i7,hr8]<;>rfl)
 ·clear hh
  have hh:=ho3
  try simp only[bc,seval,-Int.reduceToNat,i1,hr2]
  refine sp aU hh (fun _ hh =>?_) (fun _ hh =>?_)
  ·cases hh
   try simp only[bc,seval,-Int.reduceToNat,i1,hr2]
   rw[ak]
   refine⟨_,rfl,?_⟩
   refine⟨1,?_,?_,?_,?_⟩
   all_goals first|rfl|(simp only[bc,seval,-Int.reduceToNat,i1,hr2]<;>rfl)
  ·try simp only[bc,seval,-Int.reduceToNat,i1,hr2]
   refine sp aU hh (fun _ hh =>?_) (fun _ hh =>?_)
   ·cases hh
    try simp only[bc,seval,-Int.reduceToNat,i1,hr2]
    rw[ak]
    refine⟨_,rfl,?_⟩
    refine⟨1,?_,?_,?_,?_⟩
    all_goals first|rfl|(simp only[bc,seval,-Int.reduceToNat,i1,hr2]<;>rfl)
   ·have i34:=lk r2.2.2.1 ([0,1,2])
    simp only[aP,bU,List.length_cons,List.length_nil,Nat.zero_add,Nat.reduceAdd,List.length_set]at i34
    obtain⟨r35,hr35,hh⟩:=ae hh
    cases hh
    try simp only[bc,seval,-Int.reduceToNat,i1,hr2,i34,hr35]
    rw[ak]
    refine⟨_,rfl,?_⟩
    refine⟨1,?_,?_,?_,?_⟩
    all_goals first|rfl|(simp only[bc,seval,-Int.reduceToNat,i1,hr2,i34,hr35]<;>rfl)
theorem HT:bH Tryz.prog 9 sX:=bH.of (mode := .clean) tok Hl mixed Tryz.func9 (by kernel_rfl) ⟨by kernel_rfl,by kernel_rfl⟩ (fun _=>Nat.le_of_ble_eq_true (by kernel_rfl)) (fun x r h=>KA  r h)
noncomputable def yE:=eL (ec (cJ ep) (dJ (aI .i64))) (fun x:ax×Int=>rV x.1 x.2) (fun r:Bool =>.clean (.bool r))
theorem Gw (p0_0:(List al)) (p1:Int):yE none [.agg [.sl false false p0_0.length (ab aq p0_0)],.int .i64 p1]=(rV (ax.mk p0_0) p1).map fun r:Bool=>(.clean (.bool r),none):=aK _ _ _ ((ax.mk p0_0),p1)
theorem QU (p0:ax) (p1:Int) (r:Bool) (hh:rV p0 p1=some r):aQ .clean tab aS FU Tryz.f10 none [.agg [.sl false false p0.ah.length (ab aq p0.ah)],.int .i64 p1]=some (.clean (.bool r),none):=by
 refine av rfl Tryz.ntmps10 Tryz.results10 ?_
 unfold rV at hh
 try simp only[w,seval,-Int.reduceToNat]
 obtain⟨o6,ho6,hh⟩:=ae hh
 refine aA (fun s t H e=>match s with|s5a=>∃v2a:Nat,t 1=.int .i64 p1∧t 2=.ptr 2 v2a 0∧t 5=.int .i64 s5a∧H 2=some ⟨v2a,24,[.sl false false p0.ah.length (ab aq p0.ah)],false,false,false⟩) (fun o x t H e=>match o with|(.inl _)=>x=.exit 0∧∃v2ax:Nat,t 1=.int .i64 p1∧t 2=.ptr 2 v2ax 0∧H 2=some ⟨v2ax,24,[.sl false false p0.ah.length (ab aq p0.ah)],false,false,false⟩|(.inr r)=>x=.ret∧gW .clean tab none [.tmp 4] ⟨t,H,e⟩=some (.clean (.bool r),none)) ho6 ?_ ?_ ?_
 ·refine⟨0,?_,?_,?_,?_⟩
  all_goals first|rfl|(simp only[w,seval,-Int.reduceToNat]<;>rfl)
 ·rintro s5a t H e ⟨v2a,Za⟩ c hh
  simp only[rW]at hh
  try simp only[w,seval,-Int.reduceToNat,Za]
  obtain⟨o7,ho7,hh⟩:=ae hh
  refine bD 0 (fun s t H e=>match s with|s15j3=>∃v2j3:Nat,t 1=.int .i64 p1∧t 2=.ptr 2 v2j3 0∧t 5=.int .i64 s5a∧t 15=.bool s15j3∧H 2=some ⟨v2j3,24,[.sl false false p0.ah.length (ab aq p0.ah)],false,false,false⟩) (fun s=>s=o7) ?_ ?_
  ·rintro s15j3 t H e ⟨v2j3,Zj3⟩ rfl
   try dsimp only at hh
   try simp only[w,seval,-Int.reduceToNat,Zj3]
   refine sp aj hh (fun _ hh =>?_) (fun _ hh =>?_)
   ·obtain⟨x9,hx9,hh⟩:=ae hh
    have ax9:=bG aq hx9
    simp only[bU]at ax9
    try simp only[w,seval,-Int.reduceToNat,Zj3,ax9]
    refine sp aj hh (fun _ hh =>?_) (fun _ hh =>?_)
    ·cases hh
     try simp only[w,seval,-Int.reduceToNat,Zj3,ax9]
     refine yZ ⟨rfl,?_⟩
     try simp only[w,seval,-Int.reduceToNat,Zj3,ax9]
    ·cases hh
     try simp only[w,seval,-Int.reduceToNat,Zj3,ax9]
     refine jB ?_
     refine⟨v2j3,?_,?_,?_,?_⟩
     all_goals first|rfl|(simp only[w,seval,-Int.reduceToNat,Zj3,ax9]<;>rfl)
   ·cases hh
    try simp only[w,seval,-Int.reduceToNat,Zj3]
    refine kH ?_
    refine⟨rfl,⟨v2j3,?_,?_,?_⟩⟩
    all_goals first|rfl|(simp only[w,seval,-Int.reduceToNat,Zj3]<;>rfl)
  ·clear hh
   have hh:=ho7
   try simp only[w,seval,-Int.reduceToNat,Za]
   refine sp bJ hh (fun _ hh =>?_) (fun _ hh =>?_)
   ·cases hh
    try simp only[w,seval,-Int.reduceToNat,Za]
    rw[ak]
    refine⟨_,rfl,?_⟩
    refine⟨v2a,?_,?_,?_,?_,?_⟩
    all_goals first|rfl|(simp only[w,seval,-Int.reduceToNat,Za]<;>rfl)
   ·cases hh
    try simp only[w,seval,-Int.reduceToNat,Za]
    rw[ak]
    refine⟨_,rfl,?_⟩
    refine⟨v2a,?_,?_,?_,?_,?_⟩
    all_goals first|rfl|(simp only[w,seval,-Int.reduceToNat,Za]<;>rfl)
 ·rintro x t H e hx
  rcases o6 with _|ra
  ·dsimp only at hx hh
   obtain⟨rfl,⟨v2ax,Zax⟩⟩:=hx
   cases hh
   try simp only[w,seval,-Int.reduceToNat,Zax]
  ·dsimp only at hx hh
   obtain⟨rfl,hE⟩:=hx
   cases hh
   try simp only[bq,bj,bF,dr,dq]
   exact hE
theorem Nt:bH Tryz.prog 10 yE:=bH.of (mode := .clean) tok bN.none mixed Tryz.func10 (by kernel_rfl) ⟨by kernel_rfl,by kernel_rfl⟩ (fun _=>Nat.le_of_ble_eq_true (by kernel_rfl)) (fun x r h=>QU x.1 x.2 r h)
noncomputable def yB:=eL (ec (cJ kd) (dJ (aI .i64))) (fun x:aF×Int=>pP x.1 x.2) (fun r:Bool =>.clean (.bool r))
theorem Gt (p0_0:Int) (p0_1:(List Int)) (p0_2:Int) (p0_3:(List Int)) (p1:Int):yB none [.agg [.int .i64 p0_0,.sl false false p0_1.length (ab (eI .i64) p0_1),.int .i64 p0_2,.sl false false p0_3.length (ab (eI .i64) p0_3)],.int .i64 p1]=(pP (aF.mk (an.mk p0_0 p0_1) (an.mk p0_2 p0_3)) p1).map fun r:Bool=>(.clean (.bool r),none):=aK _ _ _ ((aF.mk (an.mk p0_0 p0_1) (an.mk p0_2 p0_3)),p1)
theorem QQ (p0:aF) (p1:Int) (r:Bool) (hh:pP p0 p1=some r):aQ .clean tab aS FU Tryz.f56 none [.agg [.int .i64 p0.bx.ag,.sl false false p0.bx.aa.length (ab (eI .i64) p0.bx.aa),.int .i64 p0.bt.ag,.sl false false p0.bt.aa.length (ab (eI .i64) p0.bt.aa)],.int .i64 p1]=some (.clean (.bool r),none):=by
 refine av rfl Tryz.ntmps56 Tryz.results56 ?_
 unfold pP at hh
 try simp only[w,seval,-Int.reduceToNat]
 refine sp bJ hh (fun _ hh =>?_) (fun _ hh =>?_)
 ·cases hh
  try simp only[w,seval,-Int.reduceToNat]
 ·cases hh
  try simp only[w,seval,-Int.reduceToNat]
theorem Np:bH Tryz.prog 56 yB:=bH.of (mode := .clean) tok bN.none mixed Tryz.func56 (by kernel_rfl) ⟨by kernel_rfl,by kernel_rfl⟩ (fun _=>Nat.le_of_ble_eq_true (by kernel_rfl)) (fun x r h=>QQ x.1 x.2 r h)
noncomputable def yD:=eL (ec (cJ fc) (dJ (aI .i64))) (fun x:bK×Int=>rU x.1 x.2) (fun r:Bool =>.clean (.bool r))
theorem Gv (p0_0:Int) (p0_1:(List Int)) (p0_2:Int) (p0_3:(List Int)) (p0_4:Int) (p0_5:(List Int)) (p0_6:Int) (p0_7:(List Int)) (p1:Int):yD none [.agg [.int .i64 p0_0,.sl false false p0_1.length (ab (eI .i64) p0_1),.int .i64 p0_2,.sl false false p0_3.length (ab (eI .i64) p0_3),.int .i64 p0_4,.sl false false p0_5.length (ab (eI .i64) p0_5),.int .i64 p0_6,.sl false false p0_7.length (ab (eI .i64) p0_7)],.int .i64 p1]=(rU (bK.mk (aF.mk (an.mk p0_0 p0_1) (an.mk p0_2 p0_3)) (aF.mk (an.mk p0_4 p0_5) (an.mk p0_6 p0_7))) p1).map fun r:Bool=>(.clean (.bool r),none):=aK _ _ _ ((bK.mk (aF.mk (an.mk p0_0 p0_1) (an.mk p0_2 p0_3)) (aF.mk (an.mk p0_4 p0_5) (an.mk p0_6 p0_7))),p1)
noncomputable def va:Env:=(Am.ext aS 56 false yB)
theorem MM:bN Tryz.prog va:=(bN.none.add Np false)
theorem zq:type_of% (ai @w<|ai @Gt<|@va.eq_1):=⟨@w,@Gt,@va.eq_1⟩
theorem QT (p0:bK) (p1:Int) (r:Bool) (hh:rU p0 p1=some r):aQ .clean tab va FU Tryz.f29 none [.agg [.int .i64 p0.aH.bx.ag,.sl false false p0.aH.bx.aa.length (ab (eI .i64) p0.aH.bx.aa),.int .i64 p0.aH.bt.ag,.sl false false p0.aH.bt.aa.length (ab (eI .i64) p0.aH.bt.aa),.int .i64 p0.az.bx.ag,.sl false false p0.az.bx.aa.length (ab (eI .i64) p0.az.bx.aa),.int .i64 p0.az.bt.ag,.sl false false p0.az.bt.aa.length (ab (eI .i64) p0.az.bt.aa)],.int .i64 p1]=some (.clean (.bool r),none):=by
 refine av rfl Tryz.ntmps29 Tryz.results29 ?_
 unfold rU at hh
 obtain⟨r1,hr1,hh⟩:=ae hh
 try simp only[zq,seval,-Int.reduceToNat,hr1]
 refine sp bJ hh (fun _ hh =>?_) (fun _ hh =>?_)
 ·obtain⟨r3,hr3,hh⟩:=ae hh
  cases hh
  try simp only[zq,seval,-Int.reduceToNat,hr1,hr3]
 ·cases hh
  try simp only[zq,seval,-Int.reduceToNat,hr1]
theorem Ns:bH Tryz.prog 29 yD:=bH.of (mode := .clean) tok MM mixed Tryz.func29 (by kernel_rfl) ⟨by kernel_rfl,by kernel_rfl⟩ (fun _=>Nat.le_of_ble_eq_true (by kernel_rfl)) (fun x r h=>QT x.1 x.2 r h)
noncomputable def yF:=eL (ec (iE fX) (dJ (aI .i64))) (fun x:(List ByteArray)×Int=>rX x.1 x.2) (fun r:Bool =>.clean (.bool r))
theorem Gx (p0:(List ByteArray)) (p1:Int):yF none [.sl false false p0.length (ab fX p0),.int .i64 p1]=(rX p0 p1).map fun r:Bool=>(.clean (.bool r),none):=aK _ _ _ (p0,p1)
theorem QV (p0:(List ByteArray)) (p1:Int) (r:Bool) (hh:rX p0 p1=some r):aQ .clean tab aS FU Tryz.f54 none [.sl false false p0.length (ab fX p0),.int .i64 p1]=some (.clean (.bool r),none):=by
 refine av rfl Tryz.ntmps54 Tryz.results54 ?_
 unfold rX at hh
 try simp only[w,seval,-Int.reduceToNat]
 obtain⟨o8,ho8,hh⟩:=ae hh
 refine aA (fun s t H e=>match s with|s5a=>t 0=.sl false false p0.length (ab fX p0)∧t 1=.int .i64 p1∧t 5=.int .i64 s5a) (fun o x t H e=>match o with|(.inl _)=>x=.exit 0∧t 0=.sl false false p0.length (ab fX p0)∧t 1=.int .i64 p1|(.inr r)=>x=.ret∧gW .clean tab none [.tmp 4] ⟨t,H,e⟩=some (.clean (.bool r),none)) ho8 ?_ ?_ ?_
 ·refine⟨?_,?_,?_⟩
  all_goals first|rfl|(simp only[w,seval,-Int.reduceToNat]<;>rfl)
 ·rintro s5a t H e Za c hh
  simp only[rY]at hh
  try simp only[w,seval,-Int.reduceToNat,Za]
  obtain⟨o9,ho9,hh⟩:=ae hh
  refine bD 0 (fun s t H e=>match s with|s14j3=>t 0=.sl false false p0.length (ab fX p0)∧t 1=.int .i64 p1∧t 5=.int .i64 s5a∧t 14=.bool s14j3) (fun s=>s=o9) ?_ ?_
  ·rintro s14j3 t H e Zj3 rfl
   try dsimp only at hh
   try simp only[w,seval,-Int.reduceToNat,Zj3]
   refine sp aj hh (fun _ hh =>?_) (fun _ hh =>?_)
   ·obtain⟨x11,hx11,hh⟩:=ae hh
    have ax11:=bG fX hx11
    simp only[bU]at ax11
    try simp only[w,seval,-Int.reduceToNat,Zj3,ax11]
    refine sp bJ hh (fun _ hh =>?_) (fun _ hh =>?_)
    ·have ax11:=bG fX hx11
     simp only[bU]at ax11
     try simp only[w,seval,-Int.reduceToNat,Zj3,ax11,ax11]
     refine sp aU hh (fun _ hh =>?_) (fun _ hh =>?_)
     ·cases hh
      try simp only[w,seval,-Int.reduceToNat,Zj3,ax11,ax11]
      refine yZ ⟨rfl,?_⟩
      try simp only[w,seval,-Int.reduceToNat,Zj3,ax11,ax11]
     ·have ax11:=bG fX hx11
      simp only[bU]at ax11
      try simp only[w,seval,-Int.reduceToNat,Zj3,ax11,ax11,ax11]
      refine sp aj hh (fun _ hh =>?_) (fun _ hh =>?_)
      ·cases hh
       try simp only[w,seval,-Int.reduceToNat,Zj3,ax11,ax11,ax11]
       refine yZ ⟨rfl,?_⟩
       try simp only[w,seval,-Int.reduceToNat,Zj3,ax11,ax11,ax11]
      ·cases hh
       try simp only[w,seval,-Int.reduceToNat,Zj3,ax11,ax11,ax11]
       refine jB ?_
       refine⟨?_,?_,?_⟩
       all_goals first|rfl|(simp only[w,seval,-Int.reduceToNat,Zj3,ax11,ax11,ax11]<;>rfl)
    ·cases hh
     try simp only[w,seval,-Int.reduceToNat,Zj3,ax11]
     refine jB ?_
     refine⟨?_,?_,?_⟩
     all_goals first|rfl|(simp only[w,seval,-Int.reduceToNat,Zj3,ax11]<;>rfl)
   ·cases hh
    try simp only[w,seval,-Int.reduceToNat,Zj3]
    refine kH ?_
    refine⟨rfl,⟨?_,?_⟩⟩
    all_goals first|rfl|(simp only[w,seval,-Int.reduceToNat,Zj3]<;>rfl)
  ·clear hh
   have hh:=ho9
   try simp only[w,seval,-Int.reduceToNat,Za]
   refine sp bJ hh (fun _ hh =>?_) (fun _ hh =>?_)
   ·cases hh
    try simp only[w,seval,-Int.reduceToNat,Za]
    rw[ak]
    refine⟨_,rfl,?_⟩
    refine⟨?_,?_,?_,?_⟩
    all_goals first|rfl|(simp only[w,seval,-Int.reduceToNat,Za]<;>rfl)
   ·cases hh
    try simp only[w,seval,-Int.reduceToNat,Za]
    rw[ak]
    refine⟨_,rfl,?_⟩
    refine⟨?_,?_,?_,?_⟩
    all_goals first|rfl|(simp only[w,seval,-Int.reduceToNat,Za]<;>rfl)
 ·rintro x t H e hx
  rcases o8 with _|ra
  ·dsimp only at hx hh
   obtain⟨rfl,Zax⟩:=hx
   cases hh
   try simp only[w,seval,-Int.reduceToNat,Zax]
  ·dsimp only at hx hh
   obtain⟨rfl,hE⟩:=hx
   cases hh
   try simp only[bq,bj,bF,dr,dq]
   exact hE
theorem Nu:bH Tryz.prog 54 yF:=bH.of (mode := .clean) tok bN.none mixed Tryz.func54 (by kernel_rfl) ⟨by kernel_rfl,by kernel_rfl⟩ (fun _=>Nat.le_of_ble_eq_true (by kernel_rfl)) (fun x r h=>QV x.1 x.2 r h)
noncomputable def yx:=eL (dJ (cJ tD)) (fun x:fh=>rI x) (fun r:Bool =>.clean (.bool r))
theorem Gp (p0_0:(List ByteArray)) (p0_1:(List Int)) (p0_2:(List Int)):yx none [.agg [.sl false false p0_0.length (ab fX p0_0),.sl false false p0_1.length (ab (eI .i64) p0_1),.sl false false p0_2.length (ab (eI .i64) p0_2)]]=(rI (fh.mk p0_0 p0_1 p0_2)).map fun r:Bool=>(.clean (.bool r),none):=aK _ _ _ ((fh.mk p0_0 p0_1 p0_2))
noncomputable def uY:Env:=(Am.ext aS 54 false yF)
theorem MG:bN Tryz.prog uY:=(bN.none.add Nu false)
theorem qF:type_of% (ai @w<|ai @Gx<|@uY.eq_1):=⟨@w,@Gx,@uY.eq_1⟩
theorem QM (p0:fh) (r:Bool) (hh:rI p0=some r):aQ .clean tab uY FU Tryz.f26 none [.agg [.sl false false p0.aR.length (ab fX p0.aR),.sl false false p0.a8.length (ab (eI .i64) p0.a8),.sl false false p0.bu.length (ab (eI .i64) p0.bu)]]=some (.clean (.bool r),none):=by
 refine av rfl Tryz.ntmps26 Tryz.results26 ?_
 unfold rI at hh
 obtain⟨r1,hr1,hh⟩:=ae hh
 try simp only[qF,seval,-Int.reduceToNat,hr1]
 refine sp bJ hh (fun _ hh =>?_) (fun _ hh =>?_)
 ·try simp only[qF,seval,-Int.reduceToNat,hr1]
  refine sp bJ hh (fun _ hh =>?_) (fun _ hh =>?_)
  ·cases hh
   try simp only[qF,seval,-Int.reduceToNat,hr1]
  ·cases hh
   try simp only[qF,seval,-Int.reduceToNat,hr1]
 ·cases hh
  try simp only[qF,seval,-Int.reduceToNat,hr1]
theorem Nk:bH Tryz.prog 26 yx:=bH.of (mode := .clean) tok MG mixed Tryz.func26 (by kernel_rfl) ⟨by kernel_rfl,by kernel_rfl⟩ (fun _=>Nat.le_of_ble_eq_true (by kernel_rfl)) (fun x r h=>QM x r h)
noncomputable def qJ:=eL (ec (cJ ep) (dJ (cJ tD))) (fun x:ax×fh=>ke x.1 x.2) (fun r:ax×Int×(List Int)×Bool =>.clean (.tup [.agg [.sl false false r.1.ah.length (ab aq r.1.ah)],.int .i64 r.2.1,.sl false false r.2.2.1.length (ab (eI .i64) r.2.2.1),.bool r.2.2.2]))
theorem xW (p0_0:(List al)) (p1_0:(List ByteArray)) (p1_1:(List Int)) (p1_2:(List Int)):qJ none [.agg [.sl false false p0_0.length (ab aq p0_0)],.agg [.sl false false p1_0.length (ab fX p1_0),.sl false false p1_1.length (ab (eI .i64) p1_1),.sl false false p1_2.length (ab (eI .i64) p1_2)]]=(ke (ax.mk p0_0) (fh.mk p1_0 p1_1 p1_2)).map fun r:ax×Int×(List Int)×Bool=>(.clean (.tup [.agg [.sl false false r.1.ah.length (ab aq r.1.ah)],.int .i64 r.2.1,.sl false false r.2.2.1.length (ab (eI .i64) r.2.2.1),.bool r.2.2.2]),none):=aK _ _ _ ((ax.mk p0_0),(fh.mk p1_0 p1_1 p1_2))
noncomputable def nE:Env:=(Am.ext aS 37 false nq)
theorem D6:bN Tryz.prog nE:=(bN.none.add v7 false)
theorem eE:type_of% (ai @w<|ai @lp<|@nE.eq_1):=⟨@w,@lp,@nE.eq_1⟩
theorem HB (p0:ax) (p1:fh) (r:ax×Int×(List Int)×Bool) (hh:ke p0 p1=some r):aQ .clean tab nE FU Tryz.f27 none [.agg [.sl false false p0.ah.length (ab aq p0.ah)],.agg [.sl false false p1.aR.length (ab fX p1.aR),.sl false false p1.a8.length (ab (eI .i64) p1.a8),.sl false false p1.bu.length (ab (eI .i64) p1.bu)]]=some (.clean (.tup [.agg [.sl false false r.1.ah.length (ab aq r.1.ah)],.int .i64 r.2.1,.sl false false r.2.2.1.length (ab (eI .i64) r.2.2.1),.bool r.2.2.2]),none):=by
 refine av rfl Tryz.ntmps27 Tryz.results27 ?_
 unfold ke at hh
 obtain⟨r1,hr1,hh⟩:=ae hh
 try simp only[eE,seval,-Int.reduceToNat,hr1]
 refine sp mq hh (fun _ hh =>?_) (fun _ hh =>?_)
 ·try simp only[eE,seval,-Int.reduceToNat,hr1]
  refine sp mq hh (fun _ hh =>?_) (fun _ hh =>?_)
  ·try simp only[eE,seval,-Int.reduceToNat,hr1]
   refine sp mq hh (fun _ hh =>?_) (fun _ hh =>?_)
   ·try simp only[eE,seval,-Int.reduceToNat,hr1]
    refine bI (by kernel_rfl) ?_
    cases hh
    try simp only[eE,seval,-Int.reduceToNat,hr1]
   ·try simp only[eE,seval,-Int.reduceToNat,hr1]
    refine bI (by kernel_rfl) ?_
    cases hh
    try simp only[eE,seval,-Int.reduceToNat,hr1]
  ·try simp only[eE,seval,-Int.reduceToNat,hr1]
   refine bI (by kernel_rfl) ?_
   cases hh
   try simp only[eE,seval,-Int.reduceToNat,hr1]
 ·try simp only[eE,seval,-Int.reduceToNat,hr1]
  refine bI (by kernel_rfl) ?_
  cases hh
  try simp only[eE,seval,-Int.reduceToNat,hr1]
theorem Ev:bH Tryz.prog 27 qJ:=bH.of (mode := .clean) tok D6 mixed Tryz.func27 (by kernel_rfl) ⟨by kernel_rfl,by kernel_rfl⟩ (fun _=>Nat.le_of_ble_eq_true (by kernel_rfl)) (fun x r h=>HB x.1 x.2 r h)
noncomputable def qQ:=eL (ec (cJ ep) (dJ (aI .i64))) (fun x:ax×Int=>kh x.1 x.2) (fun r:(List Bool) =>.clean (.sl false false r.length (ab gP r)))
theorem xZ (p0_0:(List al)) (p1:Int):qQ none [.agg [.sl false false p0_0.length (ab aq p0_0)],.int .i64 p1]=(kh (ax.mk p0_0) p1).map fun r:(List Bool)=>(.clean (.sl false false r.length (ab gP r)),none):=aK _ _ _ ((ax.mk p0_0),p1)
noncomputable def nJ:Env:=(Am.ext aS 123 false lY)
theorem Eb:bN Tryz.prog nJ:=(bN.none.add ud false)
theorem dh:type_of% (ai @w<|ai @mm<|@nJ.eq_1):=⟨@w,@mm,@nJ.eq_1⟩
theorem HH (p0:ax) (p1:Int) (r:(List Bool)) (hh:kh p0 p1=some r):aQ .clean tab nJ FU Tryz.f96 none [.agg [.sl false false p0.ah.length (ab aq p0.ah)],.int .i64 p1]=some (.clean (.sl false false r.length (ab gP r)),none):=by
 refine av rfl Tryz.ntmps96 Tryz.results96 ?_
 unfold kh at hh
 obtain⟨x1,hx1,hh⟩:=ae hh
 obtain⟨q2a,q2b,q2c,q2d,q2e⟩:=mk_one gP hx1
 simp only[bU]at q2d
 obtain⟨x3,hx3,hh⟩:=ae hh
 have ax3:=bG gP hx3
 simp only[bU]at ax3
 have p4:=iz gP (x':=true) (fo:=0) (cs:=[.bool true]) hx3 rfl (Nat.le_of_ble_eq_true rfl)
 simp only[bU,Nat.add_zero]at p4
 have up4:=p4
 simp only[putCells,List.length_cons,List.length_nil,Nat.zero_add,Nat.reduceAdd]at up4
 try simp only[dh,seval,-Int.reduceToNat,q2a,q2b,q2c,q2d,q2e,ax3,p4,up4]
 obtain⟨o18,ho18,hh⟩:=ae hh
 refine aA (fun s t H e=>match s with|(s6a,l5a)=>∃v2a:Nat,∃v5a:Nat,t 2=.ptr 2 v2a 0∧t 5=.buf 5 v5a 1 0 (l5a).length∧t 6=.int .i64 s6a∧H 2=some ⟨v2a,24,[.sl false false p0.ah.length (ab aq p0.ah)],false,false,false⟩∧H 5=some ⟨v5a,4,ab gP l5a,false,true,false⟩) (fun o x t H e=>match o with|l5ax=>x=.exit 0∧∃v5ax:Nat,t 5=.buf 5 v5ax 1 0 (l5ax).length∧H 5=some ⟨v5ax,4,ab gP l5ax,false,true,false⟩) ho18 ?_ ?_ ?_
 ·refine⟨0,1,?_,?_,?_,?_,?_⟩
  all_goals first|rfl|(simp only[dh,seval,-Int.reduceToNat,q2a,q2b,q2c,q2d,q2e,ax3,p4,up4]<;>rfl)
 ·rintro⟨s6a,l5a⟩ t H e ⟨v2a,v5a,Za⟩ c hh
  simp only[eZ]at hh
  try simp only[dh,seval,-Int.reduceToNat,q2a,q2b,q2c,q2d,q2e,ax3,p4,up4,Za]
  refine sp aj hh (fun _ hh =>?_) (fun _ hh =>?_)
  ·obtain⟨x20,hx20,hh⟩:=ae hh
   have ax20:=bG aq hx20
   simp only[bU]at ax20
   obtain⟨r21,hr21,hh⟩:=ae hh
   try simp only[dh,seval,-Int.reduceToNat,q2a,q2b,q2c,q2d,q2e,ax3,p4,up4,Za,ax20,hr21]
   refine sp bJ hh (fun _ hh =>?_) (fun _ hh =>?_)
   ·obtain⟨x23,hx23,hh⟩:=ae hh
    have ax23:=bG gP hx23
    simp only[bU]at ax23
    try simp only[dh,seval,-Int.reduceToNat,q2a,q2b,q2c,q2d,q2e,ax3,p4,up4,Za,ax20,hr21,ax23]
    refine sp aU hh (fun _ hh =>?_) (fun _ hh =>?_)
    ·obtain⟨x25,hx25,hh⟩:=ae hh
     have ax25:=bG gP hx25
     simp only[bU]at ax25
     have p26:=iz gP (x':=true) (fo:=0) (cs:=[.bool true]) hx25 rfl (Nat.le_of_ble_eq_true rfl)
     simp only[bU,Nat.add_zero]at p26
     have up26:=p26
     simp only[putCells,List.length_cons,List.length_nil,Nat.zero_add,Nat.reduceAdd]at up26
     cases hh
     try simp only[dh,seval,-Int.reduceToNat,q2a,q2b,q2c,q2d,q2e,ax3,p4,up4,Za,ax20,hr21,ax23,ax25,p26,up26]
     refine jB ?_
     refine⟨v2a,v5a,?_,?_,?_,?_,?_⟩
     all_goals first|rfl|(simp only[dh,seval,-Int.reduceToNat,q2a,q2b,q2c,q2d,q2e,ax3,p4,up4,Za,ax20,hr21,ax23,ax25,p26,up26]<;>rfl)
    ·obtain⟨x27,hx27,hh⟩:=ae hh
     have ax27:=bG gP hx27
     simp only[bU]at ax27
     obtain⟨x28,hx28,hh⟩:=ae hh
     have ax28:=bG gP hx28
     simp only[bU]at ax28
     have p29:=iz gP (x':=x27) (fo:=0) (cs:=[.bool x27]) hx28 rfl (Nat.le_of_ble_eq_true rfl)
     simp only[bU,Nat.add_zero]at p29
     have up29:=p29
     simp only[putCells,List.length_cons,List.length_nil,Nat.zero_add,Nat.reduceAdd]at up29
     cases hh
     try simp only[dh,seval,-Int.reduceToNat,q2a,q2b,q2c,q2d,q2e,ax3,p4,up4,Za,ax20,hr21,ax23,ax27,ax28,p29,up29]
     refine jB ?_
     refine⟨v2a,v5a,?_,?_,?_,?_,?_⟩
     all_goals first|rfl|(simp only[dh,seval,-Int.reduceToNat,q2a,q2b,q2c,q2d,q2e,ax3,p4,up4,Za,ax20,hr21,ax23,ax27,ax28,p29,up29]<;>rfl)
   ·obtain⟨x30,hx30,hh⟩:=ae hh
    have ax30:=bG gP hx30
    simp only[bU]at ax30
    have p31:=iz gP (x':=false) (fo:=0) (cs:=[.bool false]) hx30 rfl (Nat.le_of_ble_eq_true rfl)
    simp only[bU,Nat.add_zero]at p31
    have up31:=p31
    simp only[putCells,List.length_cons,List.length_nil,Nat.zero_add,Nat.reduceAdd]at up31
    cases hh
    try simp only[dh,seval,-Int.reduceToNat,q2a,q2b,q2c,q2d,q2e,ax3,p4,up4,Za,ax20,hr21,ax30,p31,up31]
    refine jB ?_
    refine⟨v2a,v5a,?_,?_,?_,?_,?_⟩
    all_goals first|rfl|(simp only[dh,seval,-Int.reduceToNat,q2a,q2b,q2c,q2d,q2e,ax3,p4,up4,Za,ax20,hr21,ax30,p31,up31]<;>rfl)
  ·cases hh
   try simp only[dh,seval,-Int.reduceToNat,q2a,q2b,q2c,q2d,q2e,ax3,p4,up4,Za]
   refine kH ?_
   refine⟨rfl,⟨v5a,?_,?_⟩⟩
   all_goals first|rfl|(simp only[dh,seval,-Int.reduceToNat,q2a,q2b,q2c,q2d,q2e,ax3,p4,up4,Za]<;>rfl)
 ·rintro x t H e hx
  obtain⟨l5ax,rfl⟩:∃z,z=o18:=⟨_,rfl⟩
  dsimp only at hx hh
  obtain⟨rfl,⟨v5ax,Zax⟩⟩:=hx
  cases hh
  try simp only[dh,seval,-Int.reduceToNat,q2a,q2b,q2c,q2d,q2e,ax3,p4,up4,Zax]
theorem EA:bH Tryz.prog 96 qQ:=bH.of (mode := .clean) tok Eb mixed Tryz.func96 (by kernel_rfl) ⟨by kernel_rfl,by kernel_rfl⟩ (fun _=>Nat.le_of_ble_eq_true (by kernel_rfl)) (fun x r h=>HH x.1 x.2 r h)
noncomputable def s8:=eL (ec (cJ ep) (ec (aI .i64) (dJ (aI .i64)))) (fun x:ax×Int×Int=>lR x.1 x.2.1 x.2.2) (fun r:(List Int) =>.clean (.sl false false r.length (ab (eI .i64) r)))
theorem Ah (p0_0:(List al)) (p1:Int) (p2:Int):s8 none [.agg [.sl false false p0_0.length (ab aq p0_0)],.int .i64 p1,.int .i64 p2]=(lR (ax.mk p0_0) p1 p2).map fun r:(List Int)=>(.clean (.sl false false r.length (ab (eI .i64) r)),none):=aK _ _ _ ((ax.mk p0_0),p1,p2)
noncomputable def pD:Env:=(Am.ext (Am.ext (Am.ext aS 39 false fF) 95 false qP) 96 false qQ)
theorem Hs:bN Tryz.prog pD:=(((bN.none.add gS false).add z6 false).add EA false)
theorem bL:type_of% (ai @w<|ai @cU<|ai @rR<|ai @xZ<|@pD.eq_1):=⟨@w,@cU,@rR,@xZ,@pD.eq_1⟩
theorem KK (p0:ax) (p1:Int) (p2:Int) (r:(List Int)) (hh:lR p0 p1 p2=some r):aQ .clean tab pD FU Tryz.f55 none [.agg [.sl false false p0.ah.length (ab aq p0.ah)],.int .i64 p1,.int .i64 p2]=some (.clean (.sl false false r.length (ab (eI .i64) r)),none):=by
 refine av rfl Tryz.ntmps55 Tryz.results55 ?_
 unfold lR at hh
 obtain⟨r1,hr1,hh⟩:=ae hh
 try simp only[bL,seval,-Int.reduceToNat,hr1]
 obtain⟨o2,ho2,hh⟩:=ae hh
 refine bD 0 (fun s t H e=>match s with|s27j1=>∃v3j1:Nat,t 1=.int .i64 p1∧t 2=.int .i64 p2∧t 3=.ptr 3 v3j1 0∧t 27=.bool s27j1∧H 3=some ⟨v3j1,24,[.sl false false p0.ah.length (ab aq p0.ah)],false,false,false⟩) (fun s=>s=o2) ?_ ?_
 ·rintro s27j1 t H e ⟨v3j1,Zj1⟩ rfl
  try dsimp only at hh
  try simp only[bL,seval,-Int.reduceToNat,hr1,Zj1]
  refine sp aj hh (fun _ hh =>?_) (fun _ hh =>?_)
  ·cases hh
   try simp only[bL,seval,-Int.reduceToNat,hr1,Zj1]
  ·obtain⟨r4,hr4,hh⟩:=ae hh
   obtain⟨x5,hx5,hh⟩:=ae hh
   have ax5:=bG gP hx5
   simp only[bU]at ax5
   try simp only[bL,seval,-Int.reduceToNat,hr1,Zj1,hr4,ax5]
   refine sp aj hh (fun _ hh =>?_) (fun _ hh =>?_)
   ·cases hh
    try simp only[bL,seval,-Int.reduceToNat,hr1,Zj1,hr4,ax5]
   ·try simp only[bL,seval,-Int.reduceToNat,hr1,Zj1,hr4,ax5]
    obtain⟨o15,ho15,hh⟩:=ae hh
    refine aA (fun s t H e=>match s with|(s9b,l8b)=>∃v3b:Nat,∃v8b:Nat,t 2=.int .i64 p2∧t 3=.ptr 3 v3b 0∧t 7=.sl false false r4.length (ab gP r4)∧t 8=.buf 8 v8b 1 0 (l8b).length∧t 9=.int .i64 s9b∧H 3=some ⟨v3b,24,[.sl false false p0.ah.length (ab aq p0.ah)],false,false,false⟩∧H 8=some ⟨v8b,3,ab (eI .i64) l8b,false,true,false⟩) (fun o x t H e=>match o with|l8bx=>x=.exit 0∧∃v8bx:Nat,t 8=.buf 8 v8bx 1 0 (l8bx).length∧H 8=some ⟨v8bx,3,ab (eI .i64) l8bx,false,true,false⟩) ho15 ?_ ?_ ?_
    ·refine⟨v3j1,e+1+1,?_,?_,?_,?_,?_,?_,?_⟩
     all_goals first|rfl|(simp only[bL,seval,-Int.reduceToNat,hr1,Zj1,hr4,ax5]<;>rfl)
    ·rintro⟨s9b,l8b⟩ t H e ⟨v3b,v8b,Zb⟩ c hh
     simp only[gG]at hh
     try simp only[bL,seval,-Int.reduceToNat,hr1,hr4,ax5,Zb]
     refine sp aj hh (fun _ hh =>?_) (fun _ hh =>?_)
     ·obtain⟨x17,hx17,hh⟩:=ae hh
      have ax17:=bG aq hx17
      simp only[bU]at ax17
      try simp only[bL,seval,-Int.reduceToNat,hr1,hr4,ax5,Zb,ax17]
      refine bI (by kernel_rfl) ?_
      obtain⟨x18,hx18,hh⟩:=ae hh
      have ax18:=bG gP hx18
      simp only[bU]at ax18
      try simp only[bL,seval,-Int.reduceToNat,hr1,hr4,ax5,Zb,ax17,ax18]
      refine sp aj hh (fun _ hh =>?_) (fun _ hh =>?_)
      ·obtain⟨x20,hx20,hh⟩:=ae hh
       obtain⟨q21a,q21b,q21c,q21d⟩:=fi (eI .i64) hx20
       simp only[bU]at q21b
       cases hh
       try simp only[bL,seval,-Int.reduceToNat,hr1,hr4,ax5,Zb,ax17,ax18,q21a,q21b,q21c,q21d]
       refine jB ?_
       refine⟨v3b,e+1+1+1+1+1+1,?_,?_,?_,?_,?_,?_,?_⟩
       all_goals first|rfl|(simp only[bL,seval,-Int.reduceToNat,hr1,hr4,ax5,Zb,ax17,ax18,q21a,q21b,q21c,q21d]<;>rfl)
      ·obtain⟨x22,hx22,hh⟩:=ae hh
       obtain⟨q23a,q23b,q23c,q23d⟩:=fi (eI .i64) hx22
       simp only[bU]at q23b
       cases hh
       try simp only[bL,seval,-Int.reduceToNat,hr1,hr4,ax5,Zb,ax17,ax18,q23a,q23b,q23c,q23d]
       refine jB ?_
       refine⟨v3b,e+1+1+1+1+1,?_,?_,?_,?_,?_,?_,?_⟩
       all_goals first|rfl|(simp only[bL,seval,-Int.reduceToNat,hr1,hr4,ax5,Zb,ax17,ax18,q23a,q23b,q23c,q23d]<;>rfl)
     ·cases hh
      try simp only[bL,seval,-Int.reduceToNat,hr1,hr4,ax5,Zb]
      refine kH ?_
      refine⟨rfl,⟨v8b,?_,?_⟩⟩
      all_goals first|rfl|(simp only[bL,seval,-Int.reduceToNat,hr1,hr4,ax5,Zb]<;>rfl)
    ·rintro x t H e hx
     obtain⟨l8bx,rfl⟩:∃z,z=o15:=⟨_,rfl⟩
     dsimp only at hx hh
     obtain⟨rfl,⟨v8bx,Zbx⟩⟩:=hx
     cases hh
     try simp only[bL,seval,-Int.reduceToNat,hr1,hr4,ax5,Zbx]
 ·clear hh
  have hh:=ho2
  try simp only[bL,seval,-Int.reduceToNat,hr1]
  refine sp aU hh (fun _ hh =>?_) (fun _ hh =>?_)
  ·cases hh
   try simp only[bL,seval,-Int.reduceToNat,hr1]
   rw[ak]
   refine⟨_,rfl,?_⟩
   refine⟨0,?_,?_,?_,?_,?_⟩
   all_goals first|rfl|(simp only[bL,seval,-Int.reduceToNat,hr1]<;>rfl)
  ·obtain⟨r25,hr25,hh⟩:=ae hh
   try simp only[bL,seval,-Int.reduceToNat,hr1,hr25]
   refine sp aU hh (fun _ hh =>?_) (fun _ hh =>?_)
   ·cases hh
    try simp only[bL,seval,-Int.reduceToNat,hr1,hr25]
    rw[ak]
    refine⟨_,rfl,?_⟩
    refine⟨0,?_,?_,?_,?_,?_⟩
    all_goals first|rfl|(simp only[bL,seval,-Int.reduceToNat,hr1,hr25]<;>rfl)
   ·obtain⟨r27,hr27,hh⟩:=ae hh
    cases hh
    try simp only[bL,seval,-Int.reduceToNat,hr1,hr25,hr27]
    rw[ak]
    refine⟨_,rfl,?_⟩
    refine⟨0,?_,?_,?_,?_,?_⟩
    all_goals first|rfl|(simp only[bL,seval,-Int.reduceToNat,hr1,hr25,hr27]<;>rfl)
theorem HZ:bH Tryz.prog 55 s8:=bH.of (mode := .clean) tok Hs mixed Tryz.func55 (by kernel_rfl) ⟨by kernel_rfl,by kernel_rfl⟩ (fun _=>Nat.le_of_ble_eq_true (by kernel_rfl)) (fun x r h=>KK x.1 x.2.1 x.2.2 r h)
noncomputable def wE:=eL (ec (cJ ep) (ec (aI .i64) (ec (iE (eI .i64)) (ec (cJ tD) (dJ (aI .i64)))))) (fun x:ax×Int×(List Int)×fh×Int=>jM x.1 x.2.1 x.2.2.1 x.2.2.2.1 x.2.2.2.2) (fun r:aN =>.clean (.agg [.int .i64 r.ct,.sl false false r.dO.length (ab (eI .i64) r.dO),.str r.cI,.int .i64 r.aJ,.int .i64 r.aM]))
theorem Dh (p0_0:(List al)) (p1:Int) (p2:(List Int)) (p3_0:(List ByteArray)) (p3_1:(List Int)) (p3_2:(List Int)) (p4:Int):wE none [.agg [.sl false false p0_0.length (ab aq p0_0)],.int .i64 p1,.sl false false p2.length (ab (eI .i64) p2),.agg [.sl false false p3_0.length (ab fX p3_0),.sl false false p3_1.length (ab (eI .i64) p3_1),.sl false false p3_2.length (ab (eI .i64) p3_2)],.int .i64 p4]=(jM (ax.mk p0_0) p1 p2 (fh.mk p3_0 p3_1 p3_2) p4).map fun r:aN=>(.clean (.agg [.int .i64 r.ct,.sl false false r.dO.length (ab (eI .i64) r.dO),.str r.cI,.int .i64 r.aJ,.int .i64 r.aM]),none):=aK _ _ _ ((ax.mk p0_0),p1,p2,(fh.mk p3_0 p3_1 p3_2),p4)
noncomputable def rz:Env:=(Am.ext aS 55 false s8)
theorem JP:bN Tryz.prog rz:=(bN.none.add HZ false)
theorem DS:type_of% (ai @w<|ai @Ah<|@rz.eq_1):=⟨@w,@Ah,@rz.eq_1⟩
theorem M3 (p0:ax) (p1:Int) (p2:(List Int)) (p3:fh) (p4:Int) (r:aN) (hh:jM p0 p1 p2 p3 p4=some r):aQ .clean tab rz FU Tryz.f28 none [.agg [.sl false false p0.ah.length (ab aq p0.ah)],.int .i64 p1,.sl false false p2.length (ab (eI .i64) p2),.agg [.sl false false p3.aR.length (ab fX p3.aR),.sl false false p3.a8.length (ab (eI .i64) p3.a8),.sl false false p3.bu.length (ab (eI .i64) p3.bu)],.int .i64 p4]=some (.clean (.agg [.int .i64 r.ct,.sl false false r.dO.length (ab (eI .i64) r.dO),.str r.cI,.int .i64 r.aJ,.int .i64 r.aM]),none):=by
 refine av rfl Tryz.ntmps28 Tryz.results28 ?_
 unfold jM at hh
 obtain⟨x1,hx1,hh⟩:=ae hh
 have ax1:=bG (eI .i64) hx1
 simp only[bU]at ax1
 have ax1:=bG (eI .i64) hx1
 simp only[bU]at ax1
 obtain⟨r2,hr2,hh⟩:=ae hh
 obtain⟨x3,hx3,hh⟩:=ae hh
 have ax3:=bG fX hx3
 simp only[bU]at ax3
 obtain⟨x4,hx4,hh⟩:=ae hh
 have ax4:=bG (eI .i64) hx4
 simp only[bU]at ax4
 obtain⟨x5,hx5,hh⟩:=ae hh
 have ax5:=bG (eI .i64) hx5
 simp only[bU]at ax5
 try simp only[DS,seval,-Int.reduceToNat,ax1,ax1,hr2,ax3,ax4,ax5]
 refine bI (by kernel_rfl) ?_
 cases hh
 try simp only[DS,seval,-Int.reduceToNat,ax1,ax1,hr2,ax3,ax4,ax5]
theorem K6:bH Tryz.prog 28 wE:=bH.of (mode := .clean) tok JP mixed Tryz.func28 (by kernel_rfl) ⟨by kernel_rfl,by kernel_rfl⟩ (fun _=>Nat.le_of_ble_eq_true (by kernel_rfl)) (fun x r h=>M3 x.1 x.2.1 x.2.2.1 x.2.2.2.1 x.2.2.2.2 r h)
noncomputable def sY:=eL (dJ (iE (eI .i64))) (fun x:(List Int)=>jw x) (fun r:Int =>.clean (.int .i64 r))
theorem Ad (p0:(List Int)):sY none [.sl false false p0.length (ab (eI .i64) p0)]=(jw p0).map fun r:Int=>(.clean (.int .i64 r),none):=aK _ _ _ (p0)
theorem KB (p0:(List Int)) (r:Int) (hh:jw p0=some r):aQ .clean tab aS FU Tryz.f33 none [.sl false false p0.length (ab (eI .i64) p0)]=some (.clean (.int .i64 r),none):=by
 refine av rfl Tryz.ntmps33 Tryz.results33 ?_
 unfold jw at hh
 try simp only[w,seval,-Int.reduceToNat]
 obtain⟨o3,ho3,hh⟩:=ae hh
 refine aA (fun s t H e=>match s with|(s3a,s4a)=>t 0=.sl false false p0.length (ab (eI .i64) p0)∧t 3=.int .i64 s3a∧t 4=.int .i64 s4a) (fun o x t H e=>match o with|s3ax=>x=.exit 0∧t 3=.int .i64 s3ax) ho3 ?_ ?_ ?_
 ·refine⟨?_,?_,?_⟩
  all_goals first|rfl|(simp only[w,seval,-Int.reduceToNat]<;>rfl)
 ·rintro⟨s3a,s4a⟩ t H e Za c hh
  simp only[jx]at hh
  try simp only[w,seval,-Int.reduceToNat,Za]
  refine sp aj hh (fun _ hh =>?_) (fun _ hh =>?_)
  ·obtain⟨x5,hx5,hh⟩:=ae hh
   have ax5:=bG (eI .i64) hx5
   simp only[bU]at ax5
   cases hh
   try simp only[w,seval,-Int.reduceToNat,Za,ax5]
   refine jB ?_
   refine⟨?_,?_,?_⟩
   all_goals first|rfl|(simp only[w,seval,-Int.reduceToNat,Za,ax5]<;>rfl)
  ·cases hh
   try simp only[w,seval,-Int.reduceToNat,Za]
   refine kH ?_
   refine⟨rfl,?_⟩
   all_goals first|rfl|(simp only[w,seval,-Int.reduceToNat,Za]<;>rfl)
 ·rintro x t H e hx
  obtain⟨s3ax,rfl⟩:∃z,z=o3:=⟨_,rfl⟩
  dsimp only at hx hh
  obtain⟨rfl,Zax⟩:=hx
  cases hh
  try simp only[w,seval,-Int.reduceToNat,Zax]
theorem HU:bH Tryz.prog 33 sY:=bH.of (mode := .clean) tok bN.none mixed Tryz.func33 (by kernel_rfl) ⟨by kernel_rfl,by kernel_rfl⟩ (fun _=>Nat.le_of_ble_eq_true (by kernel_rfl)) (fun x r h=>KB x r h)
noncomputable def Bh:=eL (dJ (iE (eI .i64))) (fun x:(List Int)=>wL x) (fun r:Int =>.clean (.int .i64 r))
theorem Db (p0:(List Int)):Bh none [.sl false false p0.length (ab (eI .i64) p0)]=(wL p0).map fun r:Int=>(.clean (.int .i64 r),none):=aK _ _ _ (p0)
theorem Tk (p0:(List Int)) (r:Int) (hh:wL p0=some r):aQ .clean tab aS FU Tryz.f134 none [.sl false false p0.length (ab (eI .i64) p0)]=some (.clean (.int .i64 r),none):=by
 refine av rfl Tryz.ntmps134 Tryz.results134 ?_
 unfold wL at hh
 try simp only[w,seval,-Int.reduceToNat]
 obtain⟨o4,ho4,hh⟩:=ae hh
 refine aA (fun s t H e=>match s with|s8a=>t 3=.int .i64 0∧t 6=.sl false false p0.length (ab (eI .i64) p0)∧t 7=.int .i64 (p0.length:Int)∧t 8=.int .i64 s8a) (fun o x t H e=>match o with|(.inl _)=>x=.exit 0∧t 3=.int .i64 0|(.inr r)=>x=.ret∧gW .clean tab none [.tmp 2] ⟨t,H,e⟩=some (.clean (.int .i64 r),none)) ho4 ?_ ?_ ?_
 ·refine⟨?_,?_,?_,?_⟩
  all_goals first|rfl|(simp only[w,seval,-Int.reduceToNat]<;>rfl)
 ·rintro s8a t H e Za c hh
  simp only[uG]at hh
  try simp only[w,seval,-Int.reduceToNat,Za]
  refine sp aj hh (fun _ hh =>?_) (fun _ hh =>?_)
  ·obtain⟨x6,hx6,hh⟩:=ae hh
   have ax6:=bG (eI .i64) hx6
   simp only[bU]at ax6
   try simp only[w,seval,-Int.reduceToNat,Za,ax6]
   refine sp aj hh (fun _ hh =>?_) (fun _ hh =>?_)
   ·cases hh
    try simp only[w,seval,-Int.reduceToNat,Za,ax6]
    refine yZ ⟨rfl,?_⟩
    try simp only[w,seval,-Int.reduceToNat,Za,ax6]
   ·cases hh
    try simp only[w,seval,-Int.reduceToNat,Za,ax6]
    refine jB ?_
    refine⟨?_,?_,?_,?_⟩
    all_goals first|rfl|(simp only[w,seval,-Int.reduceToNat,Za,ax6]<;>rfl)
  ·cases hh
   try simp only[w,seval,-Int.reduceToNat,Za]
   refine kH ?_
   refine⟨rfl,?_⟩
   all_goals first|rfl|(simp only[w,seval,-Int.reduceToNat,Za]<;>rfl)
 ·rintro x t H e hx
  rcases o4 with _|ra
  ·dsimp only at hx hh
   obtain⟨rfl,Zax⟩:=hx
   cases hh
   try simp only[w,seval,-Int.reduceToNat,Zax]
  ·dsimp only at hx hh
   obtain⟨rfl,hE⟩:=hx
   cases hh
   try simp only[bq,bj,bF,dr,dq]
   exact hE
theorem Q1:bH Tryz.prog 134 Bh:=bH.of (mode := .clean) tok bN.none mixed Tryz.func134 (by kernel_rfl) ⟨by kernel_rfl,by kernel_rfl⟩ (fun _=>Nat.le_of_ble_eq_true (by kernel_rfl)) (fun x r h=>Tk x r h)
noncomputable def uy:=eL (ec (iE (eI .i64)) (dJ (iE (eI .i64)))) (fun x:(List Int)×(List Int)=>pf x.1 x.2) (fun r:(List Int) =>.clean (.sl false false r.length (ab (eI .i64) r)))
theorem qA (p0:(List Int)) (p1:(List Int)):uy none [.sl false false p0.length (ab (eI .i64) p0),.sl false false p1.length (ab (eI .i64) p1)]=(pf p0 p1).map fun r:(List Int)=>(.clean (.sl false false r.length (ab (eI .i64) r)),none):=aK _ _ _ (p0,p1)
noncomputable def uU:Env:=(Am.ext aS 163 false j9)
theorem MC:bN Tryz.prog uU:=(bN.none.add mD false)
theorem dn:type_of% (ai @w<|ai @fp<|@uU.eq_1):=⟨@w,@fp,@uU.eq_1⟩
theorem QI (p0:(List Int)) (p1:(List Int)) (r:(List Int)) (hh:pf p0 p1=some r):aQ .clean tab uU FU Tryz.f135 none [.sl false false p0.length (ab (eI .i64) p0),.sl false false p1.length (ab (eI .i64) p1)]=some (.clean (.sl false false r.length (ab (eI .i64) r)),none):=by
 refine av rfl Tryz.ntmps135 Tryz.results135 ?_
 unfold pf at hh
 try simp only[dn,seval,-Int.reduceToNat]
 obtain⟨o1,ho1,hh⟩:=ae hh
 refine iK 0 (fun s t H e=>match s with|(s0j1,s1j1)=>t 0=.sl false false s0j1.length (ab (eI .i64) s0j1)∧t 1=.sl false false s1j1.length (ab (eI .i64) s1j1)) (fun s=>s=o1) ?_ ?_
 ·rintro⟨s0j1,s1j1⟩ t H e Zj1 rfl
  try dsimp only at hh
  obtain⟨x2,hx2,hh⟩:=ae hh
  obtain⟨q3a,q3b,q3c,q3d,q3e⟩:=mk_one (eI .i64) hx2
  simp only[bU]at q3d
  try simp only[dn,seval,-Int.reduceToNat,Zj1,q3a,q3b,q3c,q3d,q3e]
  obtain⟨o13,ho13,hh⟩:=ae hh
  refine aA (fun s t H e=>match s with|(s6b,s22b,l5b)=>∃v5b:Nat,t 0=.sl false false s0j1.length (ab (eI .i64) s0j1)∧t 1=.sl false false s1j1.length (ab (eI .i64) s1j1)∧t 5=.buf 5 v5b 1 0 (l5b).length∧t 6=.int .i64 s6b∧t 20=.sl false false s0j1.length (ab (eI .i64) s0j1)∧t 21=.int .i64 (s0j1.length:Int)∧t 22=.int .i64 s22b∧H 5=some ⟨v5b,3,ab (eI .i64) l5b,false,true,false⟩) (fun o x t H e=>match o with|(s6bx,l5bx)=>x=.exit 0∧∃v5bx:Nat,t 0=.sl false false s0j1.length (ab (eI .i64) s0j1)∧t 5=.buf 5 v5bx 1 0 (l5bx).length∧t 6=.int .i64 s6bx∧H 5=some ⟨v5bx,3,ab (eI .i64) l5bx,false,true,false⟩) ho13 ?_ ?_ ?_
  ·refine⟨e,?_,?_,?_,?_,?_,?_,?_,?_⟩
   all_goals first|rfl|(simp only[dn,seval,-Int.reduceToNat,Zj1,q3a,q3b,q3c,q3d,q3e]<;>rfl)
  ·rintro⟨s6b,s22b,l5b⟩ t H e ⟨v5b,Zb⟩ c hh
   simp only[ow]at hh
   try simp only[dn,seval,-Int.reduceToNat,q3a,q3b,q3c,q3d,q3e,Zb]
   refine sp aj hh (fun _ hh =>?_) (fun _ hh =>?_)
   ·obtain⟨x15,hx15,hh⟩:=ae hh
    have ax15:=bG (eI .i64) hx15
    simp only[bU]at ax15
    try simp only[dn,seval,-Int.reduceToNat,q3a,q3b,q3c,q3d,q3e,Zb,ax15]
    obtain⟨o16,ho16,hh⟩:=ae hh
    refine iK 0 (fun s t H e=>match s with|s6j4=>∃v5j4:Nat,t 0=.sl false false s0j1.length (ab (eI .i64) s0j1)∧t 1=.sl false false s1j1.length (ab (eI .i64) s1j1)∧t 5=.buf 5 v5j4 1 0 (l5b).length∧t 6=.int .i64 s6j4∧t 7=.int .i64 s22b∧t 20=.sl false false s0j1.length (ab (eI .i64) s0j1)∧t 21=.int .i64 (s0j1.length:Int)∧t 22=.int .i64 s22b∧H 5=some ⟨v5j4,3,ab (eI .i64) l5b,false,true,false⟩) (fun s=>s=o16) ?_ ?_
    ·rintro s6j4 t H e ⟨v5j4,Zj4⟩ rfl
     try dsimp only at hh
     obtain⟨x17,hx17,hh⟩:=ae hh
     have ax17:=bG (eI .i64) hx17
     simp only[bU]at ax17
     have p18:=iz (eI .i64) (x':=jK .and .i64 s6j4 1048575) (fo:=0) (cs:=[.int .i64 (jK .and .i64 s6j4 1048575)]) hx17 rfl (Nat.le_of_ble_eq_true rfl)
     simp only[bU,Nat.add_zero]at p18
     have up18:=p18
     simp only[putCells,List.length_cons,List.length_nil,Nat.zero_add,Nat.reduceAdd]at up18
     obtain⟨x19,hx19,hh⟩:=ae hh
     have q20:=n9 hx19
     cases hh
     try simp only[dn,seval,-Int.reduceToNat,q3a,q3b,q3c,q3d,q3e,ax15,Zj4,ax17,p18,up18,q20]
     refine jB ?_
     refine⟨v5j4,?_,?_,?_,?_,?_,?_,?_,?_⟩
     all_goals first|rfl|(simp only[dn,seval,-Int.reduceToNat,q3a,q3b,q3c,q3d,q3e,ax15,Zj4,ax17,p18,up18,q20]<;>rfl)
    ·clear hh
     have hh:=ho16
     try simp only[dn,seval,-Int.reduceToNat,q3a,q3b,q3c,q3d,q3e,Zb,ax15]
     refine sp aj hh (fun _ hh =>?_) (fun _ hh =>?_)
     ·obtain⟨x22,hx22,hh⟩:=ae hh
      have ax22:=bG (eI .i64) hx22
      simp only[bU]at ax22
      cases hh
      try simp only[dn,seval,-Int.reduceToNat,q3a,q3b,q3c,q3d,q3e,Zb,ax15,ax22]
      rw[ak]
      refine⟨_,rfl,?_⟩
      refine⟨v5b,?_,?_,?_,?_,?_,?_,?_,?_,?_⟩
      all_goals first|rfl|(simp only[dn,seval,-Int.reduceToNat,q3a,q3b,q3c,q3d,q3e,Zb,ax15,ax22]<;>rfl)
     ·cases hh
      try simp only[dn,seval,-Int.reduceToNat,q3a,q3b,q3c,q3d,q3e,Zb,ax15]
      rw[ak]
      refine⟨_,rfl,?_⟩
      refine⟨v5b,?_,?_,?_,?_,?_,?_,?_,?_,?_⟩
      all_goals first|rfl|(simp only[dn,seval,-Int.reduceToNat,q3a,q3b,q3c,q3d,q3e,Zb,ax15]<;>rfl)
   ·cases hh
    try simp only[dn,seval,-Int.reduceToNat,q3a,q3b,q3c,q3d,q3e,Zb]
    refine kH ?_
    refine⟨rfl,⟨v5b,?_,?_,?_,?_⟩⟩
    all_goals first|rfl|(simp only[dn,seval,-Int.reduceToNat,q3a,q3b,q3c,q3d,q3e,Zb]<;>rfl)
  ·rintro x t H e hx
   rcases o13 with⟨s6bx,l5bx⟩
   dsimp only at hx hh
   obtain⟨rfl,⟨v5bx,Zbx⟩⟩:=hx
   obtain⟨x23,hx23,hh⟩:=ae hh
   have ax23:=bG (eI .i64) hx23
   simp only[bU]at ax23
   have p24:=iz (eI .i64) (x':=s6bx) (fo:=0) (cs:=[.int .i64 s6bx]) hx23 rfl (Nat.le_of_ble_eq_true rfl)
   simp only[bU,Nat.add_zero]at p24
   have up24:=p24
   simp only[putCells,List.length_cons,List.length_nil,Nat.zero_add,Nat.reduceAdd]at up24
   have i25:=fp (l5bx.set ((s0j1.length:Int)).toNat s6bx)
   simp only[aP,bU,List.length_cons,List.length_nil,Nat.zero_add,Nat.reduceAdd,List.length_set]at i25
   obtain⟨r26,hr26,hh⟩:=ae hh
   cases hh
   try simp only[dn,seval,-Int.reduceToNat,q3a,q3b,q3c,q3d,q3e,Zbx,ax23,p24,up24,i25,hr26]
 ·clear hh
  have hh:=ho1
  try simp only[dn,seval,-Int.reduceToNat]
  refine sp aj hh (fun _ hh =>?_) (fun _ hh =>?_)
  ·cases hh
   try simp only[dn,seval,-Int.reduceToNat]
   rw[ak]
   refine⟨_,rfl,?_⟩
   refine⟨?_,?_⟩
   all_goals first|rfl|(simp only[dn,seval,-Int.reduceToNat]<;>rfl)
  ·cases hh
   try simp only[dn,seval,-Int.reduceToNat]
   rw[ak]
   refine⟨_,rfl,?_⟩
   refine⟨?_,?_⟩
   all_goals first|rfl|(simp only[dn,seval,-Int.reduceToNat]<;>rfl)
theorem CZ:bH Tryz.prog 135 uy:=bH.of (mode := .clean) tok MC mixed Tryz.func135 (by kernel_rfl) ⟨by kernel_rfl,by kernel_rfl⟩ (fun _=>Nat.le_of_ble_eq_true (by kernel_rfl)) (fun x r h=>QI x.1 x.2 r h)
noncomputable def uB:=eL (ec (iE (eI .i64)) (dJ (iE (eI .i64)))) (fun x:(List Int)×(List Int)=>nA x.1 x.2) (fun r:(List Int) =>.clean (.sl false false r.length (ab (eI .i64) r)))
theorem vf (p0:(List Int)) (p1:(List Int)):uB none [.sl false false p0.length (ab (eI .i64) p0),.sl false false p1.length (ab (eI .i64) p1)]=(nA p0 p1).map fun r:(List Int)=>(.clean (.sl false false r.length (ab (eI .i64) r)),none):=aK _ _ _ (p0,p1)
noncomputable def uX:Env:=(Am.ext (Am.ext aS 65 false dI) 163 false j9)
theorem MF:bN Tryz.prog uX:=((bN.none.add eT false).add mD false)
theorem fj:type_of% (ai @w<|ai @ck<|ai @fp<|@uX.eq_1):=⟨@w,@ck,@fp,@uX.eq_1⟩
theorem QL (p0:(List Int)) (p1:(List Int)) (r:(List Int)) (hh:nA p0 p1=some r):aQ .clean tab uX FU Tryz.f136 none [.sl false false p0.length (ab (eI .i64) p0),.sl false false p1.length (ab (eI .i64) p1)]=some (.clean (.sl false false r.length (ab (eI .i64) r)),none):=by
 refine av rfl Tryz.ntmps136 Tryz.results136 ?_
 unfold nA at hh
 obtain⟨r1,hr1,hh⟩:=ae hh
 try simp only[fj,seval,-Int.reduceToNat,hr1]
 obtain⟨o10,ho10,hh⟩:=ae hh
 refine aA (fun s t H e=>match s with|(s6a,s13a,l5a)=>∃v5a:Nat,t 1=.sl false false p1.length (ab (eI .i64) p1)∧t 5=.buf 5 v5a 1 0 (l5a).length∧t 6=.int .i64 s6a∧t 12=.int .i64 ((r1).length:Int)∧t 13=.int .i64 s13a∧H 5=some ⟨v5a,3,ab (eI .i64) l5a,false,true,false⟩) (fun o x t H e=>match o with|l5ax=>x=.exit 0∧∃v5ax:Nat,t 5=.buf 5 v5ax 1 0 (l5ax).length∧H 5=some ⟨v5ax,3,ab (eI .i64) l5ax,false,true,false⟩) ho10 ?_ ?_ ?_
 ·refine⟨1,?_,?_,?_,?_,?_,?_⟩
  all_goals first|rfl|(simp only[fj,seval,-Int.reduceToNat,hr1]<;>rfl)
 ·rintro⟨s6a,s13a,l5a⟩ t H e ⟨v5a,Za⟩ c hh
  simp only[rh]at hh
  try simp only[fj,seval,-Int.reduceToNat,hr1,Za]
  refine sp aj hh (fun _ hh =>?_) (fun _ hh =>?_)
  ·obtain⟨x12,hx12,hh⟩:=ae hh
   have ax12:=bG (eI .i64) hx12
   simp only[bU]at ax12
   try simp only[fj,seval,-Int.reduceToNat,hr1,Za,ax12]
   obtain⟨o13,ho13,hh⟩:=ae hh
   refine iK 0 (fun s t H e=>match s with|s8j3=>∃v5j3:Nat,t 1=.sl false false p1.length (ab (eI .i64) p1)∧t 5=.buf 5 v5j3 1 0 (l5a).length∧t 7=.int .i64 s13a∧t 8=.int .i64 s8j3∧t 12=.int .i64 ((r1).length:Int)∧t 13=.int .i64 s13a∧H 5=some ⟨v5j3,3,ab (eI .i64) l5a,false,true,false⟩) (fun s=>s=o13) ?_ ?_
   ·rintro s8j3 t H e ⟨v5j3,Zj3⟩ rfl
    try dsimp only at hh
    obtain⟨x14,hx14,hh⟩:=ae hh
    have q15:=n9 hx14
    have ax12:=bG (eI .i64) hx12
    simp only[bU]at ax12
    have p16:=iz (eI .i64) (x':=jK .and .i64 s8j3 1048575) (fo:=0) (cs:=[.int .i64 (jK .and .i64 s8j3 1048575)]) hx12 rfl (Nat.le_of_ble_eq_true rfl)
    simp only[bU,Nat.add_zero]at p16
    have up16:=p16
    simp only[putCells,List.length_cons,List.length_nil,Nat.zero_add,Nat.reduceAdd]at up16
    cases hh
    try simp only[fj,seval,-Int.reduceToNat,hr1,ax12,Zj3,q15,ax12,p16,up16]
    refine jB ?_
    refine⟨v5j3,?_,?_,?_,?_,?_,?_⟩
    all_goals first|rfl|(simp only[fj,seval,-Int.reduceToNat,hr1,ax12,Zj3,q15,ax12,p16,up16]<;>rfl)
   ·clear hh
    have hh:=ho13
    try simp only[fj,seval,-Int.reduceToNat,hr1,Za,ax12]
    refine sp aj hh (fun _ hh =>?_) (fun _ hh =>?_)
    ·obtain⟨x18,hx18,hh⟩:=ae hh
     have ax18:=bG (eI .i64) hx18
     simp only[bU]at ax18
     cases hh
     try simp only[fj,seval,-Int.reduceToNat,hr1,Za,ax12,ax18]
     rw[ak]
     refine⟨_,rfl,?_⟩
     refine⟨v5a,?_,?_,?_,?_,?_,?_,?_⟩
     all_goals first|rfl|(simp only[fj,seval,-Int.reduceToNat,hr1,Za,ax12,ax18]<;>rfl)
    ·cases hh
     try simp only[fj,seval,-Int.reduceToNat,hr1,Za,ax12]
     rw[ak]
     refine⟨_,rfl,?_⟩
     refine⟨v5a,?_,?_,?_,?_,?_,?_,?_⟩
     all_goals first|rfl|(simp only[fj,seval,-Int.reduceToNat,hr1,Za,ax12]<;>rfl)
  ·cases hh
   try simp only[fj,seval,-Int.reduceToNat,hr1,Za]
   refine kH ?_
   refine⟨rfl,⟨v5a,?_,?_⟩⟩
   all_goals first|rfl|(simp only[fj,seval,-Int.reduceToNat,hr1,Za]<;>rfl)
 ·rintro x t H e hx
  obtain⟨l5ax,rfl⟩:∃z,z=o10:=⟨_,rfl⟩
  dsimp only at hx hh
  obtain⟨rfl,⟨v5ax,Zax⟩⟩:=hx
  obtain⟨r19,hr19,hh⟩:=ae hh
  cases hh
  try simp only[fj,seval,-Int.reduceToNat,hr1,Zax,hr19]
theorem C2:bH Tryz.prog 136 uB:=bH.of (mode := .clean) tok MF mixed Tryz.func136 (by kernel_rfl) ⟨by kernel_rfl,by kernel_rfl⟩ (fun _=>Nat.le_of_ble_eq_true (by kernel_rfl)) (fun x r h=>QL x.1 x.2 r h)
noncomputable def yr:=eL (ec (cJ fG) (dJ (cJ fG))) (fun x:an×an=>qV x.1 x.2) (fun r:an×Int =>.clean (.tup [.agg [.int .i64 r.1.ag,.sl false false r.1.aa.length (ab (eI .i64) r.1.aa)],.int .i64 r.2]))
theorem Gj (p0_0:Int) (p0_1:(List Int)) (p1_0:Int) (p1_1:(List Int)):yr none [.agg [.int .i64 p0_0,.sl false false p0_1.length (ab (eI .i64) p0_1)],.agg [.int .i64 p1_0,.sl false false p1_1.length (ab (eI .i64) p1_1)]]=(qV (an.mk p0_0 p0_1) (an.mk p1_0 p1_1)).map fun r:an×Int=>(.clean (.tup [.agg [.int .i64 r.1.ag,.sl false false r.1.aa.length (ab (eI .i64) r.1.aa)],.int .i64 r.2]),none):=aK _ _ _ ((an.mk p0_0 p0_1),(an.mk p1_0 p1_1))
noncomputable def uO:Env:=(Am.ext (Am.ext (Am.ext (Am.ext (Am.ext (Am.ext (Am.ext aS 97 false fa) 124 false jH) 126 false gi) 129 false jI) 134 false Bh) 135 false uy) 136 false uB)
theorem Mw:bN Tryz.prog uO:=(((((((bN.none.add fE false).add oN false).add iP false).add oO false).add Q1 false).add CZ false).add C2 false)
theorem eH:type_of% (ai @w<|ai @cz<|ai @eY<|ai @dV<|ai @iQ<|ai @Db<|ai @qA<|ai @vf<|@uO.eq_1):=⟨@w,@cz,@eY,@dV,@iQ,@Db,@qA,@vf,@uO.eq_1⟩
theorem QC (p0:an) (p1:an) (r:an×Int) (hh:qV p0 p1=some r):aQ .clean tab uO FU Tryz.f104 none [.agg [.int .i64 p0.ag,.sl false false p0.aa.length (ab (eI .i64) p0.aa)],.agg [.int .i64 p1.ag,.sl false false p1.aa.length (ab (eI .i64) p1.aa)]]=some (.clean (.tup [.agg [.int .i64 r.1.ag,.sl false false r.1.aa.length (ab (eI .i64) r.1.aa)],.int .i64 r.2]),none):=by
 refine av rfl Tryz.ntmps104 Tryz.results104 ?_
 unfold qV at hh
 obtain⟨r1,hr1,hh⟩:=ae hh
 try simp only[eH,seval,-Int.reduceToNat,hr1]
 obtain⟨o2,ho2,hh⟩:=ae hh
 refine bD 0 (fun s t H e=>match s with|s13j1=>∃v2j1:Nat,∃v3j1:Nat,∃v4j1:Nat,t 2=.ptr 2 v2j1 0∧t 3=.ptr 3 v3j1 0∧t 4=.ptr 4 v4j1 0∧t 13=.bool s13j1∧H 2=some ⟨v2j1,49,[.int .i64 p0.ag,.sl false false p0.aa.length (ab (eI .i64) p0.aa)],false,false,false⟩∧H 3=some ⟨v3j1,49,[.int .i64 p1.ag,.sl false false p1.aa.length (ab (eI .i64) p1.aa)],false,false,false⟩∧H 4=some ⟨v4j1,49,[.int .i64 0,.sl true true 0 []],false,false,false⟩) (fun s=>s=o2) ?_ ?_
 ·rintro s13j1 t H e ⟨v2j1,v3j1,v4j1,Zj1⟩ rfl
  try dsimp only at hh
  try simp only[eH,seval,-Int.reduceToNat,hr1,Zj1]
  refine sp aj hh (fun _ hh =>?_) (fun _ hh =>?_)
  ·have i4:=eY false 0 ([])
   simp only[aP,bU,List.length_cons,List.length_nil,Nat.zero_add,Nat.reduceAdd,List.length_set]at i4
   obtain⟨r5,hr5,hh⟩:=ae hh
   cases hh
   try simp only[eH,seval,-Int.reduceToNat,hr1,Zj1,i4,hr5]
  ·try simp only[eH,seval,-Int.reduceToNat,hr1,Zj1]
   refine sp aj hh (fun _ hh =>?_) (fun _ hh =>?_)
   ·have i7:=Db ([p0.ag,p1.ag])
    simp only[aP,bU,List.length_cons,List.length_nil,Nat.zero_add,Nat.reduceAdd,List.length_set]at i7
    obtain⟨r8,hr8,hh⟩:=ae hh
    obtain⟨r9,hr9,hh⟩:=ae hh
    obtain⟨r10,hr10,hh⟩:=ae hh
    obtain⟨r11,hr11,hh⟩:=ae hh
    try simp only[eH,seval,-Int.reduceToNat,hr1,Zj1,i7,hr8,hr9,hr10,hr11]
    refine bI (by kernel_rfl) ?_
    cases hh
    try simp only[eH,seval,-Int.reduceToNat,hr1,Zj1,i7,hr8,hr9,hr10,hr11]
   ·obtain⟨r12,hr12,hh⟩:=ae hh
    try simp only[eH,seval,-Int.reduceToNat,hr1,Zj1,hr12]
    refine sp aj hh (fun _ hh =>?_) (fun _ hh =>?_)
    ·obtain⟨r14,hr14,hh⟩:=ae hh
     obtain⟨r15,hr15,hh⟩:=ae hh
     obtain⟨r16,hr16,hh⟩:=ae hh
     try simp only[eH,seval,-Int.reduceToNat,hr1,Zj1,hr12,hr14,hr15,hr16]
     refine bI (by kernel_rfl) ?_
     cases hh
     try simp only[eH,seval,-Int.reduceToNat,hr1,Zj1,hr12,hr14,hr15,hr16]
    ·obtain⟨r17,hr17,hh⟩:=ae hh
     obtain⟨r18,hr18,hh⟩:=ae hh
     obtain⟨r19,hr19,hh⟩:=ae hh
     try simp only[eH,seval,-Int.reduceToNat,hr1,Zj1,hr12,hr17,hr18,hr19]
     refine bI (by kernel_rfl) ?_
     cases hh
     try simp only[eH,seval,-Int.reduceToNat,hr1,Zj1,hr12,hr17,hr18,hr19]
 ·clear hh
  have hh:=ho2
  try simp only[eH,seval,-Int.reduceToNat,hr1]
  refine sp aU hh (fun _ hh =>?_) (fun _ hh =>?_)
  ·cases hh
   try simp only[eH,seval,-Int.reduceToNat,hr1]
   rw[ak]
   refine⟨_,rfl,?_⟩
   refine⟨0,0,0,?_,?_,?_,?_,?_,?_,?_⟩
   all_goals first|rfl|(simp only[eH,seval,-Int.reduceToNat,hr1]<;>rfl)
  ·obtain⟨r21,hr21,hh⟩:=ae hh
   cases hh
   try simp only[eH,seval,-Int.reduceToNat,hr1,hr21]
   rw[ak]
   refine⟨_,rfl,?_⟩
   refine⟨0,0,0,?_,?_,?_,?_,?_,?_,?_⟩
   all_goals first|rfl|(simp only[eH,seval,-Int.reduceToNat,hr1,hr21]<;>rfl)
theorem Nf:bH Tryz.prog 104 yr:=bH.of (mode := .clean) tok Mw mixed Tryz.func104 (by kernel_rfl) ⟨by kernel_rfl,by kernel_rfl⟩ (fun _=>Nat.le_of_ble_eq_true (by kernel_rfl)) (fun x r h=>QC x.1 x.2 r h)
noncomputable def yw:=eL (dJ (cJ fG)) (fun x:an=>pe x) (fun r:an =>.clean (.agg [.int .i64 r.ag,.sl false false r.aa.length (ab (eI .i64) r.aa)]))
theorem Gn (p0_0:Int) (p0_1:(List Int)):yw none [.agg [.int .i64 p0_0,.sl false false p0_1.length (ab (eI .i64) p0_1)]]=(pe (an.mk p0_0 p0_1)).map fun r:an=>(.clean (.agg [.int .i64 r.ag,.sl false false r.aa.length (ab (eI .i64) r.aa)]),none):=aK _ _ _ ((an.mk p0_0 p0_1))
noncomputable def uT:Env:=(Am.ext (Am.ext (Am.ext aS 65 false dI) 97 false fa) 126 false gi)
theorem MB:bN Tryz.prog uT:=(((bN.none.add eT false).add fE false).add iP false)
theorem vz:type_of% (ai @w<|ai @ck<|ai @cz<|ai @dV<|@uT.eq_1):=⟨@w,@ck,@cz,@dV,@uT.eq_1⟩
theorem QH (p0:an) (r:an) (hh:pe p0=some r):aQ .clean tab uT FU Tryz.f137 none [.agg [.int .i64 p0.ag,.sl false false p0.aa.length (ab (eI .i64) p0.aa)]]=some (.clean (.agg [.int .i64 r.ag,.sl false false r.aa.length (ab (eI .i64) r.aa)]),none):=by
 refine av rfl Tryz.ntmps137 Tryz.results137 ?_
 unfold pe at hh
 obtain⟨r1,hr1,hh⟩:=ae hh
 try simp only[vz,seval,-Int.reduceToNat,hr1]
 refine sp aj hh (fun _ hh =>?_) (fun _ hh =>?_)
 ·cases hh
  try simp only[vz,seval,-Int.reduceToNat,hr1]
 ·obtain⟨r3,hr3,hh⟩:=ae hh
  obtain⟨r4,hr4,hh⟩:=ae hh
  try simp only[vz,seval,-Int.reduceToNat,hr1,hr3,hr4]
  refine bI (by kernel_rfl) ?_
  cases hh
  try simp only[vz,seval,-Int.reduceToNat,hr1,hr3,hr4]
theorem Nj:bH Tryz.prog 137 yw:=bH.of (mode := .clean) tok MB mixed Tryz.func137 (by kernel_rfl) ⟨by kernel_rfl,by kernel_rfl⟩ (fun _=>Nat.le_of_ble_eq_true (by kernel_rfl)) (fun x r h=>QH x r h)
noncomputable def yt:=eL (ec (cJ fG) (dJ (cJ fG))) (fun x:an×an=>l3 x.1 x.2) (fun r:an×an×Int =>.clean (.tup [.agg [.int .i64 r.1.ag,.sl false false r.1.aa.length (ab (eI .i64) r.1.aa)],.agg [.int .i64 r.2.1.ag,.sl false false r.2.1.aa.length (ab (eI .i64) r.2.1.aa)],.int .i64 r.2.2]))
theorem Gk (p0_0:Int) (p0_1:(List Int)) (p1_0:Int) (p1_1:(List Int)):yt none [.agg [.int .i64 p0_0,.sl false false p0_1.length (ab (eI .i64) p0_1)],.agg [.int .i64 p1_0,.sl false false p1_1.length (ab (eI .i64) p1_1)]]=(l3 (an.mk p0_0 p0_1) (an.mk p1_0 p1_1)).map fun r:an×an×Int=>(.clean (.tup [.agg [.int .i64 r.1.ag,.sl false false r.1.aa.length (ab (eI .i64) r.1.aa)],.agg [.int .i64 r.2.1.ag,.sl false false r.2.1.aa.length (ab (eI .i64) r.2.1.aa)],.int .i64 r.2.2]),none):=aK _ _ _ ((an.mk p0_0 p0_1),(an.mk p1_0 p1_1))
noncomputable def uP:Env:=(Am.ext (Am.ext (Am.ext (Am.ext (Am.ext aS 97 false fa) 125 false uz) 126 false gi) 135 false uy) 136 false uB)
theorem Mx:bN Tryz.prog uP:=(((((bN.none.add fE false).add C0 false).add iP false).add CZ false).add C2 false)
theorem cW:type_of% (ai @w<|ai @cz<|ai @ve<|ai @dV<|ai @qA<|ai @vf<|@uP.eq_1):=⟨@w,@cz,@ve,@dV,@qA,@vf,@uP.eq_1⟩
theorem QD (p0:an) (p1:an) (r:an×an×Int) (hh:l3 p0 p1=some r):aQ .clean tab uP FU Tryz.f138 none [.agg [.int .i64 p0.ag,.sl false false p0.aa.length (ab (eI .i64) p0.aa)],.agg [.int .i64 p1.ag,.sl false false p1.aa.length (ab (eI .i64) p1.aa)]]=some (.clean (.tup [.agg [.int .i64 r.1.ag,.sl false false r.1.aa.length (ab (eI .i64) r.1.aa)],.agg [.int .i64 r.2.1.ag,.sl false false r.2.1.aa.length (ab (eI .i64) r.2.1.aa)],.int .i64 r.2.2]),none):=by
 refine av rfl Tryz.ntmps138 Tryz.results138 ?_
 unfold l3 at hh
 obtain⟨r1,hr1,hh⟩:=ae hh
 try simp only[cW,seval,-Int.reduceToNat,hr1]
 obtain⟨o2,ho2,hh⟩:=ae hh
 refine bD 0 (fun s t H e=>match s with|s9j1=>∃v2j1:Nat,∃v3j1:Nat,∃v4j1:Nat,∃v5j1:Nat,t 2=.ptr 2 v2j1 0∧t 3=.ptr 3 v3j1 0∧t 4=.ptr 4 v4j1 0∧t 5=.ptr 5 v5j1 0∧t 9=.bool s9j1∧H 2=some ⟨v2j1,49,[.int .i64 p0.ag,.sl false false p0.aa.length (ab (eI .i64) p0.aa)],false,false,false⟩∧H 3=some ⟨v3j1,49,[.int .i64 p1.ag,.sl false false p1.aa.length (ab (eI .i64) p1.aa)],false,false,false⟩∧H 4=some ⟨v4j1,49,[.int .i64 0,.sl true true 0 []],false,false,false⟩∧H 5=some ⟨v5j1,49,[.int .i64 0,.sl true true 0 []],false,false,false⟩) (fun s=>s=o2) ?_ ?_
 ·rintro s9j1 t H e ⟨v2j1,v3j1,v4j1,v5j1,Zj1⟩ rfl
  try dsimp only at hh
  try simp only[cW,seval,-Int.reduceToNat,hr1,Zj1]
  refine sp aj hh (fun _ hh =>?_) (fun _ hh =>?_)
  ·cases hh
   try simp only[cW,seval,-Int.reduceToNat,hr1,Zj1]
  ·try simp only[cW,seval,-Int.reduceToNat,hr1,Zj1]
   refine sp aj hh (fun _ hh =>?_) (fun _ hh =>?_)
   ·cases hh
    try simp only[cW,seval,-Int.reduceToNat,hr1,Zj1]
   ·obtain⟨r5,hr5,hh⟩:=ae hh
    try simp only[cW,seval,-Int.reduceToNat,hr1,Zj1,hr5]
    obtain⟨o6,ho6,hh⟩:=ae hh
    refine bD 0 (fun s t H e=>match s with|s44j2=>∃v2j2:Nat,∃v3j2:Nat,∃v4j2:Nat,∃v5j2:Nat,t 2=.ptr 2 v2j2 0∧t 3=.ptr 3 v3j2 0∧t 4=.ptr 4 v4j2 0∧t 5=.ptr 5 v5j2 0∧t 7=.sl false false r5.1.length (ab (eI .i64) r5.1)∧t 8=.sl false false r5.2.length (ab (eI .i64) r5.2)∧t 44=.bool s44j2∧H 2=some ⟨v2j2,49,[.int .i64 p0.ag,.sl false false p0.aa.length (ab (eI .i64) p0.aa)],false,false,false⟩∧H 3=some ⟨v3j2,49,[.int .i64 p1.ag,.sl false false p1.aa.length (ab (eI .i64) p1.aa)],false,false,false⟩∧H 4=some ⟨v4j2,49,[.int .i64 0,.sl true true 0 []],false,false,false⟩∧H 5=some ⟨v5j2,49,[.int .i64 0,.sl true true 0 []],false,false,false⟩) (fun s=>s=o6) ?_ ?_
    ·rintro s44j2 t H e ⟨v2j2,v3j2,v4j2,v5j2,Zj2⟩ rfl
     try dsimp only at hh
     try simp only[cW,seval,-Int.reduceToNat,hr1,hr5,Zj2]
     refine sp aj hh (fun _ hh =>?_) (fun _ hh =>?_)
     ·have i8:=qA r5.1 ([1])
      simp only[aP,bU,List.length_cons,List.length_nil,Nat.zero_add,Nat.reduceAdd,List.length_set]at i8
      obtain⟨r9,hr9,hh⟩:=ae hh
      obtain⟨r10,hr10,hh⟩:=ae hh
      obtain⟨r11,hr11,hh⟩:=ae hh
      obtain⟨r12,hr12,hh⟩:=ae hh
      try simp only[cW,seval,-Int.reduceToNat,hr1,hr5,Zj2,i8,hr9,hr10,hr11,hr12]
      refine bI (by kernel_rfl) ?_
      cases hh
      try simp only[cW,seval,-Int.reduceToNat,hr1,hr5,Zj2,i8,hr9,hr10,hr11,hr12]
     ·obtain⟨r13,hr13,hh⟩:=ae hh
      obtain⟨r14,hr14,hh⟩:=ae hh
      try simp only[cW,seval,-Int.reduceToNat,hr1,hr5,Zj2,hr13,hr14]
      refine bI (by kernel_rfl) ?_
      cases hh
      try simp only[cW,seval,-Int.reduceToNat,hr1,hr5,Zj2,hr13,hr14]
    ·clear hh
     have hh:=ho6
     try simp only[cW,seval,-Int.reduceToNat,hr1,Zj1,hr5]
     refine sp bJ hh (fun _ hh =>?_) (fun _ hh =>?_)
     ·cases hh
      try simp only[cW,seval,-Int.reduceToNat,hr1,Zj1,hr5]
      rw[ak]
      refine⟨_,rfl,?_⟩
      refine⟨v2j1,v3j1,v4j1,v5j1,?_,?_,?_,?_,?_,?_,?_,?_,?_,?_,?_⟩
      all_goals first|rfl|(simp only[cW,seval,-Int.reduceToNat,hr1,Zj1,hr5]<;>rfl)
     ·cases hh
      try simp only[cW,seval,-Int.reduceToNat,hr1,Zj1,hr5]
      rw[ak]
      refine⟨_,rfl,?_⟩
      refine⟨v2j1,v3j1,v4j1,v5j1,?_,?_,?_,?_,?_,?_,?_,?_,?_,?_,?_⟩
      all_goals first|rfl|(simp only[cW,seval,-Int.reduceToNat,hr1,Zj1,hr5]<;>rfl)
 ·clear hh
  have hh:=ho2
  try simp only[cW,seval,-Int.reduceToNat,hr1]
  refine sp aU hh (fun _ hh =>?_) (fun _ hh =>?_)
  ·cases hh
   try simp only[cW,seval,-Int.reduceToNat,hr1]
   rw[ak]
   refine⟨_,rfl,?_⟩
   refine⟨0,0,0,0,?_,?_,?_,?_,?_,?_,?_,?_,?_⟩
   all_goals first|rfl|(simp only[cW,seval,-Int.reduceToNat,hr1]<;>rfl)
  ·obtain⟨r17,hr17,hh⟩:=ae hh
   cases hh
   try simp only[cW,seval,-Int.reduceToNat,hr1,hr17]
   rw[ak]
   refine⟨_,rfl,?_⟩
   refine⟨0,0,0,0,?_,?_,?_,?_,?_,?_,?_,?_,?_⟩
   all_goals first|rfl|(simp only[cW,seval,-Int.reduceToNat,hr1,hr17]<;>rfl)
theorem Ng:bH Tryz.prog 138 yt:=bH.of (mode := .clean) tok Mx mixed Tryz.func138 (by kernel_rfl) ⟨by kernel_rfl,by kernel_rfl⟩ (fun _=>Nat.le_of_ble_eq_true (by kernel_rfl)) (fun x r h=>QD x.1 x.2 r h)
noncomputable def wC:=eL (ec (cJ fG) (dJ (cJ fG))) (fun x:an×an=>oJ x.1 x.2) (fun r:aF×Int =>.clean (.tup [.agg [.int .i64 r.1.bx.ag,.sl false false r.1.bx.aa.length (ab (eI .i64) r.1.bx.aa),.int .i64 r.1.bt.ag,.sl false false r.1.bt.aa.length (ab (eI .i64) r.1.bt.aa)],.int .i64 r.2]))
theorem De (p0_0:Int) (p0_1:(List Int)) (p1_0:Int) (p1_1:(List Int)):wC none [.agg [.int .i64 p0_0,.sl false false p0_1.length (ab (eI .i64) p0_1)],.agg [.int .i64 p1_0,.sl false false p1_1.length (ab (eI .i64) p1_1)]]=(oJ (an.mk p0_0 p0_1) (an.mk p1_0 p1_1)).map fun r:aF×Int=>(.clean (.tup [.agg [.int .i64 r.1.bx.ag,.sl false false r.1.bx.aa.length (ab (eI .i64) r.1.bx.aa),.int .i64 r.1.bt.ag,.sl false false r.1.bt.aa.length (ab (eI .i64) r.1.bt.aa)],.int .i64 r.2]),none):=aK _ _ _ ((an.mk p0_0 p0_1),(an.mk p1_0 p1_1))
noncomputable def ru:Env:=(Am.ext (Am.ext (Am.ext (Am.ext aS 97 false fa) 98 false ux) 137 false yw) 138 false yt)
theorem JN:bN Tryz.prog ru:=((((bN.none.add fE false).add CY false).add Nj false).add Ng false)
theorem db:type_of% (ai @w<|ai @cz<|ai @vd<|ai @Gn<|ai @Gk<|@ru.eq_1):=⟨@w,@cz,@vd,@Gn,@Gk,@ru.eq_1⟩
theorem MZ (p0:an) (p1:an) (r:aF×Int) (hh:oJ p0 p1=some r):aQ .clean tab ru FU Tryz.f105 none [.agg [.int .i64 p0.ag,.sl false false p0.aa.length (ab (eI .i64) p0.aa)],.agg [.int .i64 p1.ag,.sl false false p1.aa.length (ab (eI .i64) p1.aa)]]=some (.clean (.tup [.agg [.int .i64 r.1.bx.ag,.sl false false r.1.bx.aa.length (ab (eI .i64) r.1.bx.aa),.int .i64 r.1.bt.ag,.sl false false r.1.bt.aa.length (ab (eI .i64) r.1.bt.aa)],.int .i64 r.2]),none):=by
 refine av rfl Tryz.ntmps105 Tryz.results105 ?_
 unfold oJ at hh
 obtain⟨r1,hr1,hh⟩:=ae hh
 try simp only[db,seval,-Int.reduceToNat,hr1]
 obtain⟨o2,ho2,hh⟩:=ae hh
 refine bD 0 (fun s t H e=>match s with|s14j1=>∃v2j1:Nat,∃v3j1:Nat,∃v4j1:Nat,t 2=.ptr 2 v2j1 0∧t 3=.ptr 3 v3j1 0∧t 4=.ptr 4 v4j1 0∧t 14=.bool s14j1∧H 2=some ⟨v2j1,49,[.int .i64 p0.ag,.sl false false p0.aa.length (ab (eI .i64) p0.aa)],false,false,false⟩∧H 3=some ⟨v3j1,49,[.int .i64 p1.ag,.sl false false p1.aa.length (ab (eI .i64) p1.aa)],false,false,false⟩∧H 4=some ⟨v4j1,51,[.int .i64 0,.sl true true 0 [],.int .i64 0,.sl true true 0 []],false,false,false⟩) (fun s=>s=o2) ?_ ?_
 ·rintro s14j1 t H e ⟨v2j1,v3j1,v4j1,Zj1⟩ rfl
  try dsimp only at hh
  try simp only[db,seval,-Int.reduceToNat,hr1,Zj1]
  refine sp aj hh (fun _ hh =>?_) (fun _ hh =>?_)
  ·cases hh
   try simp only[db,seval,-Int.reduceToNat,hr1,Zj1]
  ·try simp only[db,seval,-Int.reduceToNat,hr1,Zj1]
   refine sp aj hh (fun _ hh =>?_) (fun _ hh =>?_)
   ·cases hh
    try simp only[db,seval,-Int.reduceToNat,hr1,Zj1]
   ·try simp only[db,seval,-Int.reduceToNat,hr1,Zj1]
    obtain⟨o5,ho5,hh⟩:=ae hh
    refine iK 0 (fun s t H e=>match s with|(r2_0j2,r2_1j2,r3_0j2,r3_1j2)=>∃v2j2:Nat,∃v3j2:Nat,∃v4j2:Nat,t 2=.ptr 2 v2j2 0∧t 3=.ptr 3 v3j2 0∧t 4=.ptr 4 v4j2 0∧H 2=some ⟨v2j2,49,[.int .i64 r2_0j2,.sl false false r2_1j2.length (ab (eI .i64) r2_1j2)],false,false,false⟩∧H 3=some ⟨v3j2,49,[.int .i64 r3_0j2,.sl false false r3_1j2.length (ab (eI .i64) r3_1j2)],false,false,false⟩∧H 4=some ⟨v4j2,51,[.int .i64 0,.sl true true 0 [],.int .i64 0,.sl true true 0 []],false,false,false⟩) (fun s=>s=o5) ?_ ?_
    ·rintro⟨r2_0j2,r2_1j2,r3_0j2,r3_1j2⟩ t H e ⟨v2j2,v3j2,v4j2,Zj2⟩ rfl
     try dsimp only at hh
     obtain⟨r6,hr6,hh⟩:=ae hh
     obtain⟨r7,hr7,hh⟩:=ae hh
     obtain⟨r8,hr8,hh⟩:=ae hh
     cases hh
     try simp only[db,seval,-Int.reduceToNat,hr1,Zj2,hr6,hr7,hr8]
    ·clear hh
     have hh:=ho5
     try simp only[db,seval,-Int.reduceToNat,hr1,Zj1]
     refine sp aj hh (fun _ hh =>?_) (fun _ hh =>?_)
     ·obtain⟨r10,hr10,hh⟩:=ae hh
      obtain⟨r11,hr11,hh⟩:=ae hh
      try simp only[db,seval,-Int.reduceToNat,hr1,Zj1,hr10,hr11]
      refine bI (by kernel_rfl) ?_
      cases hh
      try simp only[db,seval,-Int.reduceToNat,hr1,Zj1,hr10,hr11]
      rw[ak]
      refine⟨_,rfl,?_⟩
      refine⟨v2j1,v3j1,v4j1,?_,?_,?_,?_,?_,?_⟩
      all_goals first|rfl|(simp only[db,seval,-Int.reduceToNat,hr1,Zj1,hr10,hr11]<;>rfl)
     ·cases hh
      try simp only[db,seval,-Int.reduceToNat,hr1,Zj1]
      rw[ak]
      refine⟨_,rfl,?_⟩
      refine⟨v2j1,v3j1,v4j1,?_,?_,?_,?_,?_,?_⟩
      all_goals first|rfl|(simp only[db,seval,-Int.reduceToNat,hr1,Zj1]<;>rfl)
 ·clear hh
  have hh:=ho2
  try simp only[db,seval,-Int.reduceToNat,hr1]
  refine sp aU hh (fun _ hh =>?_) (fun _ hh =>?_)
  ·cases hh
   try simp only[db,seval,-Int.reduceToNat,hr1]
   rw[ak]
   refine⟨_,rfl,?_⟩
   refine⟨0,0,0,?_,?_,?_,?_,?_,?_,?_⟩
   all_goals first|rfl|(simp only[db,seval,-Int.reduceToNat,hr1]<;>rfl)
  ·obtain⟨r13,hr13,hh⟩:=ae hh
   cases hh
   try simp only[db,seval,-Int.reduceToNat,hr1,hr13]
   rw[ak]
   refine⟨_,rfl,?_⟩
   refine⟨0,0,0,?_,?_,?_,?_,?_,?_,?_⟩
   all_goals first|rfl|(simp only[db,seval,-Int.reduceToNat,hr1,hr13]<;>rfl)
theorem K4:bH Tryz.prog 105 wC:=bH.of (mode := .clean) tok JN mixed Tryz.func105 (by kernel_rfl) ⟨by kernel_rfl,by kernel_rfl⟩ (fun _=>Nat.le_of_ble_eq_true (by kernel_rfl)) (fun x r h=>MZ x.1 x.2 r h)
noncomputable def wz:=eL (ec (cJ kd) (dJ (cJ kd))) (fun x:aF×aF=>my x.1 x.2) (fun r:aF×Int =>.clean (.tup [.agg [.int .i64 r.1.bx.ag,.sl false false r.1.bx.aa.length (ab (eI .i64) r.1.bx.aa),.int .i64 r.1.bt.ag,.sl false false r.1.bt.aa.length (ab (eI .i64) r.1.bt.aa)],.int .i64 r.2]))
theorem Dc (p0_0:Int) (p0_1:(List Int)) (p0_2:Int) (p0_3:(List Int)) (p1_0:Int) (p1_1:(List Int)) (p1_2:Int) (p1_3:(List Int)):wz none [.agg [.int .i64 p0_0,.sl false false p0_1.length (ab (eI .i64) p0_1),.int .i64 p0_2,.sl false false p0_3.length (ab (eI .i64) p0_3)],.agg [.int .i64 p1_0,.sl false false p1_1.length (ab (eI .i64) p1_1),.int .i64 p1_2,.sl false false p1_3.length (ab (eI .i64) p1_3)]]=(my (aF.mk (an.mk p0_0 p0_1) (an.mk p0_2 p0_3)) (aF.mk (an.mk p1_0 p1_1) (an.mk p1_2 p1_3))).map fun r:aF×Int=>(.clean (.tup [.agg [.int .i64 r.1.bx.ag,.sl false false r.1.bx.aa.length (ab (eI .i64) r.1.bx.aa),.int .i64 r.1.bt.ag,.sl false false r.1.bt.aa.length (ab (eI .i64) r.1.bt.aa)],.int .i64 r.2]),none):=aK _ _ _ ((aF.mk (an.mk p0_0 p0_1) (an.mk p0_2 p0_3)),(aF.mk (an.mk p1_0 p1_1) (an.mk p1_2 p1_3)))
noncomputable def rp:Env:=(Am.ext (Am.ext (Am.ext (Am.ext aS 57 false jq) 101 false nn) 104 false yr) 105 false wC)
theorem JL:bN Tryz.prog rp:=((((bN.none.add mg false).add vY false).add Nf false).add K4 false)
theorem fW:type_of% (ai @w<|ai @gw<|ai @nT<|ai @Gj<|ai @De<|@rp.eq_1):=⟨@w,@gw,@nT,@Gj,@De,@rp.eq_1⟩
end Go.Proofs.YtpkahnkoecbndaaGreatDoor.Am
