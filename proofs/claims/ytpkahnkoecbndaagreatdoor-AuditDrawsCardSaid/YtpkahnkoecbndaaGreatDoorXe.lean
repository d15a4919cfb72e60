/- Part of a proof, made small by a program (wip/mini.py). -/
import Derived.Test.YtpkahnkoecbndaaGreatDoorXd
namespace Go.Proofs.YtpkahnkoecbndaaGreatDoor.Am
open Go.RowKit Go.Proofs.YtpkahnkoecbndaaGreatDoor.P
set_option maxRecDepth 100000
set_option maxHeartbeats 4000000
set_option linter.unusedSimpArgs false
set_option linter.unusedVariables false
theorem A4 (pre post:List D) (p0:(List Int)) (p1:(List Int)) (p2:Int) (r:(List Int)×(Int)) (hh:eA p0 p1 p2=some r):aQ .clean tab aT FU Tryz.f165 (some (.buf 0 0 1 pre.length p0.length,⟨0,3,pre++(ab (eI .i64) p0++post),false,true,false⟩)) [.sl false false p1.length (ab (eI .i64) p1),.int .i64 p2]=some (.clean (.int .i64 r.2),some ⟨0,3,pre++(ab (eI .i64) r.1++post),false,true,false⟩):=by
 refine nw rfl Tryz.ntmps165 Tryz.results165 ?_
 unfold eA at hh
 obtain⟨rw,hrw,hh⟩:=ae hh
 split at hh
 rotate_left
 ·cases hh
 cases hh
 rename_i hlen
 replace hh:=hrw
 unfold mP at hh
 try simp only[w,seval,-Int.reduceToNat]
 obtain⟨o9,ho9,hh⟩:=ae hh
 refine ax (fun s t H e=>match s with|(s7a,s14a,l0a)=>t 0=.buf 0 0 1 pre.length (l0a).length∧t 1=.sl false false p1.length (ab (eI .i64) p1)∧t 2=.int .i64 p2∧t 7=.int .i64 s7a∧t 13=.int .i64 ((p0).length:Int)∧t 14=.int .i64 s14a∧H 0=some ⟨0,3,pre++(ab (eI .i64) l0a++post),false,true,false⟩) (fun o x t H e=>match o with|(s7ax,l0ax)=>x=.exit 0∧t 0=.buf 0 0 1 pre.length (l0ax).length∧t 1=.sl false false p1.length (ab (eI .i64) p1)∧t 2=.int .i64 p2∧t 7=.int .i64 s7ax∧H 0=some ⟨0,3,pre++(ab (eI .i64) l0ax++post),false,true,false⟩) ho9 ?_ ?_ ?_
 ·refine⟨?_,?_,?_,?_,?_,?_,?_⟩
  all_goals first|rfl|(simp only[w,seval,-Int.reduceToNat]<;>rfl)
 ·rintro⟨s7a,s14a,l0a⟩ t H e Za c hh
  simp only[iX]at hh
  try simp only[w,seval,-Int.reduceToNat,Za]
  refine sp aj hh (fun _ hh =>?_) (fun _ hh =>?_)
  ·obtain⟨x11,hx11,hh⟩:=ae hh
   have ax11:=rJ (pre:=pre) (post:=post) (eI .i64) hx11
   simp only[bY]at ax11
   try simp only[w,seval,-Int.reduceToNat,Za,ax11]
   obtain⟨o12,ho12,hh⟩:=ae hh
   refine lM 0 (fun s t H e=>match s with|s9j3=>t 0=.buf 0 0 1 pre.length (l0a).length∧t 1=.sl false false p1.length (ab (eI .i64) p1)∧t 2=.int .i64 p2∧t 8=.int .i64 s14a∧t 9=.int .i64 s9j3∧t 13=.int .i64 ((p0).length:Int)∧t 14=.int .i64 s14a∧H 0=some ⟨0,3,pre++(ab (eI .i64) l0a++post),false,true,false⟩) (fun s=>s=o12) ?_ ?_
   ·rintro s9j3 t H e Zj3 rfl
    try dsimp only at hh
    have ax11:=rJ (pre:=pre) (post:=post) (eI .i64) hx11
    simp only[bY]at ax11
    have p13:=vK (pre:=pre) (post:=post) (eI .i64) (y':=ot .and .i64 s9j3 1048575) hx11
    simp only[bY]at p13
    have up13:=p13
    simp only[putCells,List.length_cons,List.length_nil,Nat.zero_add,Nat.reduceAdd]at up13
    obtain⟨x14,hx14,hh⟩:=ae hh
    have q15:=p7 hx14
    cases hh
    try simp only[w,seval,-Int.reduceToNat,ax11,Zj3,ax11,p13,up13,q15]
    refine jg ?_
    refine⟨?_,?_,?_,?_,?_,?_,?_⟩
    all_goals first|rfl|(simp only[w,seval,-Int.reduceToNat,ax11,Zj3,ax11,p13,up13,q15]<;>rfl)
   ·clear hh
    have hh:=ho12
    try simp only[w,seval,-Int.reduceToNat,Za,ax11]
    refine sp aj hh (fun _ hh =>?_) (fun _ hh =>?_)
    ·obtain⟨x17,hx17,hh⟩:=ae hh
     have ax17:=bT (eI .i64) hx17
     simp only[bY]at ax17
     cases hh
     try simp only[w,seval,-Int.reduceToNat,Za,ax11,ax17]
     rw[al]
     refine⟨_,rfl,?_⟩
     refine⟨?_,?_,?_,?_,?_,?_,?_,?_⟩
     all_goals first|rfl|(simp only[w,seval,-Int.reduceToNat,Za,ax11,ax17]<;>rfl)
    ·cases hh
     try simp only[w,seval,-Int.reduceToNat,Za,ax11]
     rw[al]
     refine⟨_,rfl,?_⟩
     refine⟨?_,?_,?_,?_,?_,?_,?_,?_⟩
     all_goals first|rfl|(simp only[w,seval,-Int.reduceToNat,Za,ax11]<;>rfl)
  ·cases hh
   try simp only[w,seval,-Int.reduceToNat,Za]
   refine kl ?_
   refine⟨rfl,⟨?_,?_,?_,?_,?_⟩⟩
   all_goals first|rfl|(simp only[w,seval,-Int.reduceToNat,Za]<;>rfl)
 ·rintro x t H e hx
  rcases o9 with⟨s7ax,l0ax⟩
  dsimp only at hx hh
  obtain⟨rfl,Zax⟩:=hx
  try simp only[w,seval,-Int.reduceToNat,Zax]
  refine sp aj hh (fun _ hh =>?_) (fun _ hh =>?_)
  ·cases hh
   try simp only[w,seval,-Int.reduceToNat,Zax]
  ·try simp only[w,seval,-Int.reduceToNat,Zax]
   obtain⟨o27,ho27,hh⟩:=ae hh
   refine ax (fun s t H e=>match s with|(s10d,s49d,l0d)=>t 0=.buf 0 0 1 pre.length (l0d).length∧t 1=.sl false false p1.length (ab (eI .i64) p1)∧t 2=.int .i64 p2∧t 10=.int .i64 s10d∧t 48=.int .i64 ((l0ax).length:Int)∧t 49=.int .i64 s49d∧H 0=some ⟨0,3,pre++(ab (eI .i64) l0d++post),false,true,false⟩) (fun o x t H e=>match o with|l0dx=>x=.exit 2∧t 0=.buf 0 0 1 pre.length (l0dx).length∧t 2=.int .i64 p2∧H 0=some ⟨0,3,pre++(ab (eI .i64) l0dx++post),false,true,false⟩) ho27 ?_ ?_ ?_
   ·refine⟨?_,?_,?_,?_,?_,?_,?_⟩
    all_goals first|rfl|(simp only[w,seval,-Int.reduceToNat,Zax]<;>rfl)
   ·rintro⟨s10d,s49d,l0d⟩ t H e Zd c hh
    simp only[iY]at hh
    try simp only[w,seval,-Int.reduceToNat,Zd]
    refine sp aj hh (fun _ hh =>?_) (fun _ hh =>?_)
    ·obtain⟨x29,hx29,hh⟩:=ae hh
     have ax29:=rJ (pre:=pre) (post:=post) (eI .i64) hx29
     simp only[bY]at ax29
     try simp only[w,seval,-Int.reduceToNat,Zd,ax29]
     obtain⟨o30,ho30,hh⟩:=ae hh
     refine lM 0 (fun s t H e=>match s with|s10j6=>t 0=.buf 0 0 1 pre.length (l0d).length∧t 1=.sl false false p1.length (ab (eI .i64) p1)∧t 2=.int .i64 p2∧t 10=.int .i64 s10j6∧t 11=.int .i64 s49d∧t 48=.int .i64 ((l0ax).length:Int)∧t 49=.int .i64 s49d∧H 0=some ⟨0,3,pre++(ab (eI .i64) l0d++post),false,true,false⟩) (fun s=>s=o30) ?_ ?_
     ·rintro s10j6 t H e Zj6 rfl
      try dsimp only at hh
      have ax29:=rJ (pre:=pre) (post:=post) (eI .i64) hx29
      simp only[bY]at ax29
      have p31:=vK (pre:=pre) (post:=post) (eI .i64) (y':=ot .and .i64 s10j6 1048575) hx29
      simp only[bY]at p31
      have up31:=p31
      simp only[putCells,List.length_cons,List.length_nil,Nat.zero_add,Nat.reduceAdd]at up31
      obtain⟨x32,hx32,hh⟩:=ae hh
      have q33:=p7 hx32
      cases hh
      try simp only[w,seval,-Int.reduceToNat,ax29,Zj6,ax29,p31,up31,q33]
      refine jg ?_
      refine⟨?_,?_,?_,?_,?_,?_,?_⟩
      all_goals first|rfl|(simp only[w,seval,-Int.reduceToNat,ax29,Zj6,ax29,p31,up31,q33]<;>rfl)
     ·clear hh
      have hh:=ho30
      try simp only[w,seval,-Int.reduceToNat,Zd,ax29]
      refine sp aj hh (fun _ hh =>?_) (fun _ hh =>?_)
      ·obtain⟨x35,hx35,hh⟩:=ae hh
       have ax35:=bT (eI .i64) hx35
       simp only[bY]at ax35
       cases hh
       try simp only[w,seval,-Int.reduceToNat,Zd,ax29,ax35]
       rw[al]
       refine⟨_,rfl,?_⟩
       refine⟨?_,?_,?_,?_,?_,?_,?_,?_⟩
       all_goals first|rfl|(simp only[w,seval,-Int.reduceToNat,Zd,ax29,ax35]<;>rfl)
      ·cases hh
       try simp only[w,seval,-Int.reduceToNat,Zd,ax29]
       rw[al]
       refine⟨_,rfl,?_⟩
       refine⟨?_,?_,?_,?_,?_,?_,?_,?_⟩
       all_goals first|rfl|(simp only[w,seval,-Int.reduceToNat,Zd,ax29]<;>rfl)
    ·cases hh
     try simp only[w,seval,-Int.reduceToNat,Zd]
     refine kl ?_
     refine⟨rfl,⟨?_,?_,?_⟩⟩
     all_goals first|rfl|(simp only[w,seval,-Int.reduceToNat,Zd]<;>rfl)
   ·rintro x t H e hx
    obtain⟨l0dx,rfl⟩:∃z,z=o27:=⟨_,rfl⟩
    dsimp only at hx hh
    obtain⟨rfl,Zdx⟩:=hx
    cases hh
    try simp only[w,seval,-Int.reduceToNat,Zdx]
theorem yS:bI Tryz.prog 165 mI:=bI.Mu (mode := .clean) tok bM.none mixed Tryz.func165 (by kernel_rfl) ⟨by kernel_rfl,by kernel_rfl⟩ (fun _=>Nat.le_of_ble_eq_true (by kernel_rfl)) (fun pre post l x l' r h=>A4 pre post l x.1 x.2 (l',r) h)
noncomputable def wz:=ez (dX (gg (eI .i64)) (dJ (gg (eI .i64)))) (fun x:(List Int)×(List Int)=>pk x.1 x.2) (fun r:(List Int)×(List Int) =>.clean (.tup [.sl false false r.1.length (ab (eI .i64) r.1),.sl false false r.2.length (ab (eI .i64) r.2)]))
theorem Eu (p0:(List Int)) (p1:(List Int)):wz none [.sl false false p0.length (ab (eI .i64) p0),.sl false false p1.length (ab (eI .i64) p1)]=(pk p0 p1).map fun r:(List Int)×(List Int)=>(.clean (.tup [.sl false false r.1.length (ab (eI .i64) r.1),.sl false false r.2.length (ab (eI .i64) r.2)]),none):=aE _ _ _ (p0,p1)
noncomputable def sC:Env:=(Am.ext (Am.ext (Am.ext (Am.ext (Am.ext (Am.ext aT 65 false eh) 129 false kO) 162 false qO) 163 false mJ) 164 false sj) 165 true mI)
theorem Kn:bM Tryz.prog sC:=((((((bM.none.add gn false).add rT false).add F2 false).add rU false).add Bg false).add yS true)
theorem aM:type_of% (ai @w<|ai @da<|ai @lj<|ai @yc<|ai @jj<|ai @mD<|@sC.eq_1):=⟨@w,@da,@lj,@yc,@jj,@mD,@sC.eq_1⟩
theorem NM (p0:(List Int)) (p1:(List Int)) (r:(List Int)×(List Int)) (hh:pk p0 p1=some r):aQ .clean tab sC FU Tryz.f125 none [.sl false false p0.length (ab (eI .i64) p0),.sl false false p1.length (ab (eI .i64) p1)]=some (.clean (.tup [.sl false false r.1.length (ab (eI .i64) r.1),.sl false false r.2.length (ab (eI .i64) r.2)]),none):=by
 refine aw rfl Tryz.ntmps125 Tryz.results125 ?_
 unfold pk at hh
 obtain⟨r1,hr1,hh⟩:=ae hh
 try simp only[aM,seval,-Int.reduceToNat,hr1]
 refine sp aj hh (fun _ hh =>?_) (fun _ hh =>?_)
 ·obtain⟨r3,hr3,hh⟩:=ae hh
  cases hh
  try simp only[aM,seval,-Int.reduceToNat,hr1,hr3]
 ·try simp only[aM,seval,-Int.reduceToNat,hr1]
  refine sp aj hh (fun _ hh =>?_) (fun _ hh =>?_)
  ·obtain⟨x5,hx5,hh⟩:=ae hh
   have ax5:=bT (eI .i64) hx5
   simp only[bY]at ax5
   obtain⟨r6,hr6,hh⟩:=ae hh
   have i7:=jj ([r6.2])
   simp only[aF,bY,List.length_cons,List.length_nil,Nat.zero_add,Nat.reduceAdd,List.length_set]at i7
   obtain⟨r8,hr8,hh⟩:=ae hh
   cases hh
   try simp only[aM,seval,-Int.reduceToNat,hr1,ax5,hr6,i7,hr8]
  ·try simp only[aM,seval,-Int.reduceToNat,hr1]
   obtain⟨o11,ho11,hh⟩:=ae hh
   refine ax (fun s t H e=>match s with|s8a=>t 0=.sl false false p0.length (ab (eI .i64) p0)∧t 1=.sl false false p1.length (ab (eI .i64) p1)∧t 8=.int .i64 s8a) (fun o x t H e=>match o with|s8ax=>x=.exit 0∧t 0=.sl false false p0.length (ab (eI .i64) p0)∧t 1=.sl false false p1.length (ab (eI .i64) p1)∧t 8=.int .i64 s8ax) ho11 ?_ ?_ ?_
   ·refine⟨?_,?_,?_⟩
    all_goals first|rfl|(simp only[aM,seval,-Int.reduceToNat,hr1]<;>rfl)
   ·rintro s8a t H e Za c hh
    simp only[pn]at hh
    obtain⟨x12,hx12,hh⟩:=ae hh
    have ax12:=bT (eI .i64) hx12
    simp only[bY]at ax12
    try simp only[aM,seval,-Int.reduceToNat,hr1,Za,ax12]
    refine sp aj hh (fun _ hh =>?_) (fun _ hh =>?_)
    ·cases hh
     try simp only[aM,seval,-Int.reduceToNat,hr1,Za,ax12]
     refine jg ?_
     refine⟨?_,?_,?_⟩
     all_goals first|rfl|(simp only[aM,seval,-Int.reduceToNat,hr1,Za,ax12]<;>rfl)
    ·cases hh
     try simp only[aM,seval,-Int.reduceToNat,hr1,Za,ax12]
     refine kl ?_
     refine⟨rfl,⟨?_,?_,?_⟩⟩
     all_goals first|rfl|(simp only[aM,seval,-Int.reduceToNat,hr1,Za,ax12]<;>rfl)
   ·rintro x t H e hx
    obtain⟨s8ax,rfl⟩:∃z,z=o11:=⟨_,rfl⟩
    dsimp only at hx hh
    obtain⟨rfl,Zax⟩:=hx
    have i14:=mD p0 ([s8ax])
    simp only[aF,bY,List.length_cons,List.length_nil,Nat.zero_add,Nat.reduceAdd,List.length_set]at i14
    obtain⟨r15,hr15,hh⟩:=ae hh
    obtain⟨x16,hx16,hh⟩:=ae hh
    obtain⟨q17a,q17b,q17c,q17d⟩:=eo (eI .i64) hx16
    simp only[bY]at q17b
    have i18:=mD p1 ([s8ax])
    simp only[aF,bY,List.length_cons,List.length_nil,Nat.zero_add,Nat.reduceAdd,List.length_set]at i18
    obtain⟨r19,hr19,hh⟩:=ae hh
    try simp only[aM,seval,-Int.reduceToNat,hr1,Zax,i14,hr15,q17a,q17b,q17c,q17d,i18,hr19]
    obtain⟨o20,ho20,hh⟩:=ae hh
    refine lM 0 (fun s t H e=>match s with|l9j2=>∃v9j2:Nat,∃v10j2:Nat,t 8=.int .i64 s8ax∧t 9=.buf 9 v9j2 1 0 (l9j2).length∧t 10=.buf 10 v10j2 1 0 (r19).length∧H 9=some ⟨v9j2,3,ab (eI .i64) l9j2,false,true,false⟩∧H 10=some ⟨v10j2,3,ab (eI .i64) r19,false,true,false⟩) (fun s=>s=o20) ?_ ?_
    ·rintro l9j2 t H e ⟨v9j2,v10j2,Zj2⟩ rfl
     try dsimp only at hh
     obtain⟨x21,hx21,hh⟩:=ae hh
     obtain⟨q22a,q22b,q22c,q22d,q22e⟩:=mk_one (eI .i64) hx21
     simp only[bY]at q22d
     try simp only[aM,seval,-Int.reduceToNat,hr1,i14,hr15,q17a,q17b,q17c,q17d,i18,hr19,Zj2,q22a,q22b,q22c,q22d,q22e]
     obtain⟨o58,ho58,hh⟩:=ae hh
     refine ax (fun s t H e=>match s with|(s13c,l9c,l12c)=>∃v9c:Nat,∃v10c:Nat,∃v12c:Nat,∃z10c:Bool,t 8=.int .i64 s8ax∧t 9=.buf 9 v9c 1 0 (l9c).length∧t 10=.buf 10 v10c 1 0 (r19).length∧t 11=.int .i64 ((r19).length:Int)∧t 12=.buf 12 v12c 1 0 (l12c).length∧t 13=.int .i64 s13c∧H 9=some ⟨v9c,3,ab (eI .i64) l9c,false,true,false⟩∧H 10=some ⟨v10c,3,ab (eI .i64) r19,z10c,true,false⟩∧H 12=some ⟨v12c,3,ab (eI .i64) l12c,false,true,false⟩) (fun o x t H e=>match o with|(l9cx,l12cx)=>x=.exit 2∧∃v9cx:Nat,∃v12cx:Nat,t 8=.int .i64 s8ax∧t 9=.buf 9 v9cx 1 0 (l9cx).length∧t 12=.buf 12 v12cx 1 0 (l12cx).length∧H 9=some ⟨v9cx,3,ab (eI .i64) l9cx,false,true,false⟩∧H 12=some ⟨v12cx,3,ab (eI .i64) l12cx,false,true,false⟩) ho58 ?_ ?_ ?_
     ·refine⟨v9j2,v10j2,e+1,false,?_,?_,?_,?_,?_,?_,?_,?_,?_⟩
      all_goals first|rfl|(simp only[aM,seval,-Int.reduceToNat,hr1,i14,hr15,q17a,q17b,q17c,q17d,i18,hr19,Zj2,q22a,q22b,q22c,q22d,q22e]<;>rfl)
     ·rintro⟨s13c,l9c,l12c⟩ t H e ⟨v9c,v10c,v12c,z10c,Zc⟩ c hh
      simp only[po]at hh
      try simp only[aM,seval,-Int.reduceToNat,hr1,i14,hr15,q17a,q17b,q17c,q17d,i18,hr19,q22a,q22b,q22c,q22d,q22e,Zc]
      refine sp aj hh (fun _ hh =>?_) (fun _ hh =>?_)
      ·obtain⟨x60,hx60,hh⟩:=ae hh
       have ax60:=bT (eI .i64) hx60
       simp only[bY]at ax60
       obtain⟨x61,hx61,hh⟩:=ae hh
       have q62:=zg hx61
       obtain⟨x63,hx63,hh⟩:=ae hh
       have ax63:=bT (eI .i64) hx63
       simp only[bY]at ax63
       try simp only[aM,seval,-Int.reduceToNat,hr1,i14,hr15,q17a,q17b,q17c,q17d,i18,hr19,q22a,q22b,q22c,q22d,q22e,Zc,ax60,q62,ax63]
       refine b6 (by kernel_rfl) ?_
       obtain⟨x64,hx64,hh⟩:=ae hh
       have ax64:=bT (eI .i64) hx64
       simp only[bY]at ax64
       obtain⟨x65,hx65,hh⟩:=ae hh
       have q66:=pz hx65
       have ax64:=bT (eI .i64) hx64
       simp only[bY]at ax64
       obtain⟨x67,hx67,hh⟩:=ae hh
       have q68:=pM hx67
       try simp only[aM,seval,-Int.reduceToNat,hr1,i14,hr15,q17a,q17b,q17c,q17d,i18,hr19,q22a,q22b,q22c,q22d,q22e,Zc,ax60,q62,ax63,ax64,q66,ax64,q68]
       refine b6 (by kernel_rfl) ?_
       try simp only[aM,seval,-Int.reduceToNat,hr1,i14,hr15,q17a,q17b,q17c,q17d,i18,hr19,q22a,q22b,q22c,q22d,q22e,Zc,ax60,q62,ax63,ax64,q66,ax64,q68]
       obtain⟨o78,ho78,hh⟩:=ae hh
       refine ax (fun s t H e=>match s with|(s15g,s16g)=>∃v9g:Nat,∃v10g:Nat,∃v12g:Nat,∃z10g:Bool,t 8=.int .i64 s8ax∧t 9=.buf 9 v9g 1 0 (l9c).length∧t 10=.buf 10 v10g 1 0 (r19).length∧t 11=.int .i64 ((r19).length:Int)∧t 12=.buf 12 v12g 1 0 (l12c).length∧t 13=.int .i64 s13c∧t 15=.int .i64 s15g∧t 16=.int .i64 s16g∧H 9=some ⟨v9g,3,ab (eI .i64) l9c,false,true,false⟩∧H 10=some ⟨v10g,3,ab (eI .i64) r19,z10g,true,false⟩∧H 12=some ⟨v12g,3,ab (eI .i64) l12c,false,true,false⟩) (fun o x t H e=>match o with|s15gx=>x=.exit 4∧∃v9gx:Nat,∃v10gx:Nat,∃v12gx:Nat,∃z10gx:Bool,t 8=.int .i64 s8ax∧t 9=.buf 9 v9gx 1 0 (l9c).length∧t 10=.buf 10 v10gx 1 0 (r19).length∧t 11=.int .i64 ((r19).length:Int)∧t 12=.buf 12 v12gx 1 0 (l12c).length∧t 13=.int .i64 s13c∧t 15=.int .i64 s15gx∧H 9=some ⟨v9gx,3,ab (eI .i64) l9c,false,true,false⟩∧H 10=some ⟨v10gx,3,ab (eI .i64) r19,z10gx,true,false⟩∧H 12=some ⟨v12gx,3,ab (eI .i64) l12c,false,true,false⟩) ho78 ?_ ?_ ?_
       ·refine⟨v9c,v10c,v12c,z10c,?_,?_,?_,?_,?_,?_,?_,?_,?_,?_,?_⟩
        all_goals first|rfl|(simp only[aM,seval,-Int.reduceToNat,hr1,i14,hr15,q17a,q17b,q17c,q17d,i18,hr19,q22a,q22b,q22c,q22d,q22e,Zc,ax60,q62,ax63,ax64,q66,ax64,q68]<;>rfl)
       ·rintro⟨s15g,s16g⟩ t H e ⟨v9g,v10g,v12g,z10g,Zg⟩ c hh
        simp only[pq]at hh
        try simp only[aM,seval,-Int.reduceToNat,hr1,i14,hr15,q17a,q17b,q17c,q17d,i18,hr19,q22a,q22b,q22c,q22d,q22e,ax60,q62,ax63,ax64,q66,ax64,q68,Zg]
        obtain⟨o79,ho79,hh⟩:=ae hh
        refine JN 0 (fun s t H e=>match s with|s137j9=>∃v9j9:Nat,∃v10j9:Nat,∃v12j9:Nat,∃z10j9:Bool,t 8=.int .i64 s8ax∧t 9=.buf 9 v9j9 1 0 (l9c).length∧t 10=.buf 10 v10j9 1 0 (r19).length∧t 11=.int .i64 ((r19).length:Int)∧t 12=.buf 12 v12j9 1 0 (l12c).length∧t 13=.int .i64 s13c∧t 15=.int .i64 s15g∧t 16=.int .i64 s16g∧t 137=.bool s137j9∧H 9=some ⟨v9j9,3,ab (eI .i64) l9c,false,true,false⟩∧H 10=some ⟨v10j9,3,ab (eI .i64) r19,z10j9,true,false⟩∧H 12=some ⟨v12j9,3,ab (eI .i64) l12c,false,true,false⟩) (fun s=>s=o79) ?_ ?_
        ·rintro s137j9 t H e ⟨v9j9,v10j9,v12j9,z10j9,Zj9⟩ rfl
         try dsimp only at hh
         try simp only[aM,seval,-Int.reduceToNat,hr1,i14,hr15,q17a,q17b,q17c,q17d,i18,hr19,q22a,q22b,q22c,q22d,q22e,ax60,q62,ax63,ax64,q66,ax64,q68,Zj9]
         refine sp aj hh (fun _ hh =>?_) (fun _ hh =>?_)
         ·have ax64:=bT (eI .i64) hx64
          simp only[bY]at ax64
          cases hh
          try simp only[aM,seval,-Int.reduceToNat,hr1,i14,hr15,q17a,q17b,q17c,q17d,i18,hr19,q22a,q22b,q22c,q22d,q22e,ax60,q62,ax63,ax64,q66,ax64,q68,Zj9,ax64]
          refine jg ?_
          refine⟨v9j9,v10j9,v12j9,z10j9,?_,?_,?_,?_,?_,?_,?_,?_,?_,?_,?_⟩
          all_goals first|rfl|(simp only[aM,seval,-Int.reduceToNat,hr1,i14,hr15,q17a,q17b,q17c,q17d,i18,hr19,q22a,q22b,q22c,q22d,q22e,ax60,q62,ax63,ax64,q66,ax64,q68,Zj9,ax64]<;>rfl)
         ·cases hh
          try simp only[aM,seval,-Int.reduceToNat,hr1,i14,hr15,q17a,q17b,q17c,q17d,i18,hr19,q22a,q22b,q22c,q22d,q22e,ax60,q62,ax63,ax64,q66,ax64,q68,Zj9]
          refine kl ?_
          refine⟨rfl,⟨v9j9,v10j9,v12j9,z10j9,?_,?_,?_,?_,?_,?_,?_,?_,?_,?_⟩⟩
          all_goals first|rfl|(simp only[aM,seval,-Int.reduceToNat,hr1,i14,hr15,q17a,q17b,q17c,q17d,i18,hr19,q22a,q22b,q22c,q22d,q22e,ax60,q62,ax63,ax64,q66,ax64,q68,Zj9]<;>rfl)
        ·clear hh
         have hh:=ho79
         try simp only[aM,seval,-Int.reduceToNat,hr1,i14,hr15,q17a,q17b,q17c,q17d,i18,hr19,q22a,q22b,q22c,q22d,q22e,ax60,q62,ax63,ax64,q66,ax64,q68,Zg]
         refine sp JM hh (fun _ hh =>?_) (fun _ hh =>?_)
         ·try simp only[aM,seval,-Int.reduceToNat,hr1,i14,hr15,q17a,q17b,q17c,q17d,i18,hr19,q22a,q22b,q22c,q22d,q22e,ax60,q62,ax63,ax64,q66,ax64,q68,Zg]
          refine b6 (by kernel_rfl) ?_
          cases hh
          try simp only[aM,seval,-Int.reduceToNat,hr1,i14,hr15,q17a,q17b,q17c,q17d,i18,hr19,q22a,q22b,q22c,q22d,q22e,ax60,q62,ax63,ax64,q66,ax64,q68,Zg]
          rw[al]
          refine⟨_,rfl,?_⟩
          refine⟨v9g,v10g,v12g,z10g,?_,?_,?_,?_,?_,?_,?_,?_,?_,?_,?_,?_⟩
          all_goals first|rfl|(simp only[aM,seval,-Int.reduceToNat,hr1,i14,hr15,q17a,q17b,q17c,q17d,i18,hr19,q22a,q22b,q22c,q22d,q22e,ax60,q62,ax63,ax64,q66,ax64,q68,Zg]<;>rfl)
         ·try simp only[aM,seval,-Int.reduceToNat,hr1,i14,hr15,q17a,q17b,q17c,q17d,i18,hr19,q22a,q22b,q22c,q22d,q22e,ax60,q62,ax63,ax64,q66,ax64,q68,Zg]
          refine sp wc hh (fun _ hh =>?_) (fun _ hh =>?_)
          ·obtain⟨x83,hx83,hh⟩:=ae hh
           have ax83:=bT (eI .i64) hx83
           simp only[bY]at ax83
           obtain⟨x84,hx84,hh⟩:=ae hh
           have q85:=zg hx84
           obtain⟨x86,hx86,hh⟩:=ae hh
           have ax86:=bT (eI .i64) hx86
           simp only[bY]at ax86
           try simp only[aM,seval,-Int.reduceToNat,hr1,i14,hr15,q17a,q17b,q17c,q17d,i18,hr19,q22a,q22b,q22c,q22d,q22e,ax60,q62,ax63,ax64,q66,ax64,q68,Zg,ax83,q85,ax86]
           refine b6 (by kernel_rfl) ?_
           cases hh
           try simp only[aM,seval,-Int.reduceToNat,hr1,i14,hr15,q17a,q17b,q17c,q17d,i18,hr19,q22a,q22b,q22c,q22d,q22e,ax60,q62,ax63,ax64,q66,ax64,q68,Zg,ax83,q85,ax86]
           rw[al]
           refine⟨_,rfl,?_⟩
           refine⟨v9g,v10g,v12g,z10g,?_,?_,?_,?_,?_,?_,?_,?_,?_,?_,?_,?_⟩
           all_goals first|rfl|(simp only[aM,seval,-Int.reduceToNat,hr1,i14,hr15,q17a,q17b,q17c,q17d,i18,hr19,q22a,q22b,q22c,q22d,q22e,ax60,q62,ax63,ax64,q66,ax64,q68,Zg,ax83,q85,ax86]<;>rfl)
          ·try simp only[aM,seval,-Int.reduceToNat,hr1,i14,hr15,q17a,q17b,q17c,q17d,i18,hr19,q22a,q22b,q22c,q22d,q22e,ax60,q62,ax63,ax64,q66,ax64,q68,Zg]
           refine b6 (by kernel_rfl) ?_
           cases hh
           try simp only[aM,seval,-Int.reduceToNat,hr1,i14,hr15,q17a,q17b,q17c,q17d,i18,hr19,q22a,q22b,q22c,q22d,q22e,ax60,q62,ax63,ax64,q66,ax64,q68,Zg]
           rw[al]
           refine⟨_,rfl,?_⟩
           refine⟨v9g,v10g,v12g,z10g,?_,?_,?_,?_,?_,?_,?_,?_,?_,?_,?_,?_⟩
           all_goals first|rfl|(simp only[aM,seval,-Int.reduceToNat,hr1,i14,hr15,q17a,q17b,q17c,q17d,i18,hr19,q22a,q22b,q22c,q22d,q22e,ax60,q62,ax63,ax64,q66,ax64,q68,Zg]<;>rfl)
       ·rintro x t H e hx
        obtain⟨s15gx,rfl⟩:∃z,z=o78:=⟨_,rfl⟩
        dsimp only at hx hh
        obtain⟨rfl,⟨v9gx,v10gx,v12gx,z10gx,Zgx⟩⟩:=hx
        obtain⟨x87,hx87,hh⟩:=ae hh
        obtain⟨q88a,q88b,q88c,q88d,q88e⟩:=Uf (eI .i64) hx87
        simp only[bY]at q88e
        have i89:=Bq (ab (eI .i64) (l9c.take (s13c).toNat)) (ab (eI .i64) (l9c.drop (IntKind.i64.wrap ((IntKind.i64.wrap (s13c+((r19).length:Int)))+1)).toNat)) x87 r19 s15gx
        simp only[SP,SQ (eI .i64) hx87,SR (eI .i64) hx87,TC hx87,bY,Int.toNat_zero,Nat.zero_mul,Nat.sub_zero]at i89
        obtain⟨r90,hr90,hh⟩:=ae hh
        have q91l:=w6 hr90
        have q91m:=RE hx87 q91l
        obtain⟨x92,hx92,hh⟩:=ae hh
        have ax92:=bT (eI .i64) hx92
        simp only[bY]at ax92
        have p93:=nV (eI .i64) (x':=r90.2) (fo:=0) (cs:=[.int .i64 r90.2]) hx92 rfl (Nat.le_of_ble_eq_true rfl)
        simp only[bY,Nat.add_zero]at p93
        have up93:=p93
        simp only[putCells,List.length_cons,List.length_nil,Nat.zero_add,Nat.reduceAdd]at up93
        cases hh
        try simp only[aM,seval,-Int.reduceToNat,hr1,i14,hr15,q17a,q17b,q17c,q17d,i18,hr19,q22a,q22b,q22c,q22d,q22e,ax60,q62,ax63,ax64,q66,ax64,q68,Zgx,q88a,q88b,q88c,q88e,i89,hr90,q91m,ax92,p93,up93]
        refine jg ?_
        refine⟨v9gx,v10gx,v12gx,true,?_,?_,?_,?_,?_,?_,?_,?_,?_⟩
        all_goals first|rfl|(simp only[aM,seval,-Int.reduceToNat,hr1,i14,hr15,q17a,q17b,q17c,q17d,i18,hr19,q22a,q22b,q22c,q22d,q22e,ax60,q62,ax63,ax64,q66,ax64,q68,Zgx,q88a,q88b,q88c,q88e,i89,hr90,q91m,ax92,p93,up93]<;>rfl)
      ·cases hh
       try simp only[aM,seval,-Int.reduceToNat,hr1,i14,hr15,q17a,q17b,q17c,q17d,i18,hr19,q22a,q22b,q22c,q22d,q22e,Zc]
       refine kl ?_
       refine⟨rfl,⟨v9c,v12c,?_,?_,?_,?_,?_⟩⟩
       all_goals first|rfl|(simp only[aM,seval,-Int.reduceToNat,hr1,i14,hr15,q17a,q17b,q17c,q17d,i18,hr19,q22a,q22b,q22c,q22d,q22e,Zc]<;>rfl)
     ·rintro x t H e hx
      rcases o58 with⟨l9cx,l12cx⟩
      dsimp only at hx hh
      obtain⟨rfl,⟨v9cx,v12cx,Zcx⟩⟩:=hx
      obtain⟨r94,hr94,hh⟩:=ae hh
      obtain⟨r95,hr95,hh⟩:=ae hh
      obtain⟨r96,hr96,hh⟩:=ae hh
      cases hh
      try simp only[aM,seval,-Int.reduceToNat,hr1,i14,hr15,q17a,q17b,q17c,q17d,i18,hr19,q22a,q22b,q22c,q22d,q22e,Zcx,hr94,hr95,hr96]
    ·clear hh
     have hh:=ho20
     try simp only[aM,seval,-Int.reduceToNat,hr1,Zax,i14,hr15,q17a,q17b,q17c,q17d,i18,hr19]
     refine sp aj hh (fun _ hh =>?_) (fun _ hh =>?_)
     ·obtain⟨x98,hx98,hh⟩:=ae hh
      obtain⟨q99a,q99b,q99c,q99d⟩:=eo (eI .i64) hx98
      simp only[bY]at q99b
      cases hh
      try simp only[aM,seval,-Int.reduceToNat,hr1,Zax,i14,hr15,q17a,q17b,q17c,q17d,i18,hr19,q99a,q99b,q99c,q99d]
      rw[al]
      refine⟨_,rfl,?_⟩
      refine⟨e+1+1,e,?_,?_,?_,?_,?_⟩
      all_goals first|rfl|(simp only[aM,seval,-Int.reduceToNat,hr1,Zax,i14,hr15,q17a,q17b,q17c,q17d,i18,hr19,q99a,q99b,q99c,q99d]<;>rfl)
     ·cases hh
      try simp only[aM,seval,-Int.reduceToNat,hr1,Zax,i14,hr15,q17a,q17b,q17c,q17d,i18,hr19]
      rw[al]
      refine⟨_,rfl,?_⟩
      refine⟨e,e,?_,?_,?_,?_,?_⟩
      all_goals first|rfl|(simp only[aM,seval,-Int.reduceToNat,hr1,Zax,i14,hr15,q17a,q17b,q17c,q17d,i18,hr19]<;>rfl)
theorem KS:bI Tryz.prog 125 wz:=bI.of (mode := .clean) tok Kn mixed Tryz.func125 (by kernel_rfl) ⟨by kernel_rfl,by kernel_rfl⟩ (fun _=>Nat.le_of_ble_eq_true (by kernel_rfl)) (fun x r h=>NM x.1 x.2 r h)
noncomputable def jI:=ez (dX (aI .i64) (dJ (gg (eI .i64)))) (fun x:Int×(List Int)=>fq x.1 x.2) (fun r:ay =>.clean (.agg [.int .i64 r.ah,.sl false false r.aa.length (ab (eI .i64) r.aa)]))
theorem iz (p0:Int) (p1:(List Int)):jI none [.int .i64 p0,.sl false false p1.length (ab (eI .i64) p1)]=(fq p0 p1).map fun r:ay=>(.clean (.agg [.int .i64 r.ah,.sl false false r.aa.length (ab (eI .i64) r.aa)]),none):=aE _ _ _ (p0,p1)
noncomputable def ma:Env:=(Am.ext aT 163 false mJ)
theorem Ci:bM Tryz.prog ma:=(bM.none.add rU false)
theorem qe:type_of% (ai @w<|ai @jj<|@ma.eq_1):=⟨@w,@jj,@ma.eq_1⟩
theorem FI (p0:Int) (p1:(List Int)) (r:ay) (hh:fq p0 p1=some r):aQ .clean tab ma FU Tryz.f126 none [.int .i64 p0,.sl false false p1.length (ab (eI .i64) p1)]=some (.clean (.agg [.int .i64 r.ah,.sl false false r.aa.length (ab (eI .i64) r.aa)]),none):=by
 refine aw rfl Tryz.ntmps126 Tryz.results126 ?_
 unfold fq at hh
 obtain⟨r1,hr1,hh⟩:=ae hh
 try simp only[qe,seval,-Int.reduceToNat,hr1]
 refine sp aj hh (fun _ hh =>?_) (fun _ hh =>?_)
 ·cases hh
  try simp only[qe,seval,-Int.reduceToNat,hr1]
 ·cases hh
  try simp only[qe,seval,-Int.reduceToNat,hr1]
theorem ow:bI Tryz.prog 126 jI:=bI.of (mode := .clean) tok Ci mixed Tryz.func126 (by kernel_rfl) ⟨by kernel_rfl,by kernel_rfl⟩ (fun _=>Nat.le_of_ble_eq_true (by kernel_rfl)) (fun x r h=>FI x.1 x.2 r h)
noncomputable def wv:=ez (dX (dU gN) (dJ (dU gN))) (fun x:ay×ay=>pf x.1 x.2) (fun r:ay×Int =>.clean (.tup [.agg [.int .i64 r.1.ah,.sl false false r.1.aa.length (ab (eI .i64) r.1.aa)],.int .i64 r.2]))
theorem Er (p0_0:Int) (p0_1:(List Int)) (p1_0:Int) (p1_1:(List Int)):wv none [.agg [.int .i64 p0_0,.sl false false p0_1.length (ab (eI .i64) p0_1)],.agg [.int .i64 p1_0,.sl false false p1_1.length (ab (eI .i64) p1_1)]]=(pf (ay.mk p0_0 p0_1) (ay.mk p1_0 p1_1)).map fun r:ay×Int=>(.clean (.tup [.agg [.int .i64 r.1.ah,.sl false false r.1.aa.length (ab (eI .i64) r.1.aa)],.int .i64 r.2]),none):=aE _ _ _ ((ay.mk p0_0 p0_1),(ay.mk p1_0 p1_1))
noncomputable def sy:Env:=(Am.keep 6 (Am.ext (Am.ext (Am.ext (Am.ext (Am.ext aT 65 false eh) 97 false gS) 124 false kN) 125 false wz) 126 false jI))
theorem Kk:bM Tryz.prog sy:=(bM.keep (((((bM.none.add gn false).add jZ false).add rS false).add KS false).add ow false) 6)
theorem dq:type_of% (ai @w<|ai @da<|ai @eG<|ai @gF<|ai @Eu<|ai @iz<|@sy.eq_1):=⟨@w,@da,@eG,@gF,@Eu,@iz,@sy.eq_1⟩
theorem NJ (p0:ay) (p1:ay) (r:ay×Int) (hh:pf p0 p1=some r):aQ .clean tab sy FU Tryz.f98 none [.agg [.int .i64 p0.ah,.sl false false p0.aa.length (ab (eI .i64) p0.aa)],.agg [.int .i64 p1.ah,.sl false false p1.aa.length (ab (eI .i64) p1.aa)]]=some (.clean (.tup [.agg [.int .i64 r.1.ah,.sl false false r.1.aa.length (ab (eI .i64) r.1.aa)],.int .i64 r.2]),none):=by
 refine aw rfl Tryz.ntmps98 Tryz.results98 ?_
 unfold pf at hh
 obtain⟨r1,hr1,hh⟩:=ae hh
 try simp only[dq,seval,-Int.reduceToNat,hr1]
 obtain⟨o2,ho2,hh⟩:=ae hh
 refine bG 0 (fun s t H e=>match s with|s17j1=>∃v2j1:Nat,∃v3j1:Nat,∃v4j1:Nat,t 2=.ptr 2 v2j1 0∧t 3=.ptr 3 v3j1 0∧t 4=.ptr 4 v4j1 0∧t 17=.bool s17j1∧H 2=some ⟨v2j1,49,[.int .i64 p0.ah,.sl false false p0.aa.length (ab (eI .i64) p0.aa)],false,false,false⟩∧H 3=some ⟨v3j1,49,[.int .i64 p1.ah,.sl false false p1.aa.length (ab (eI .i64) p1.aa)],false,false,false⟩∧H 4=some ⟨v4j1,49,[.int .i64 0,.sl true true 0 []],false,false,false⟩) (fun s=>s=o2) ?_ ?_
 ·rintro s17j1 t H e ⟨v2j1,v3j1,v4j1,Zj1⟩ rfl
  try dsimp only at hh
  try simp only[dq,seval,-Int.reduceToNat,hr1,Zj1]
  refine sp aj hh (fun _ hh =>?_) (fun _ hh =>?_)
  ·have i4:=gF false 0 ([])
   simp only[aF,bY,List.length_cons,List.length_nil,Nat.zero_add,Nat.reduceAdd,List.length_set]at i4
   obtain⟨r5,hr5,hh⟩:=ae hh
   cases hh
   try simp only[dq,seval,-Int.reduceToNat,hr1,Zj1,i4,hr5]
  ·obtain⟨r6,hr6,hh⟩:=ae hh
   try simp only[dq,seval,-Int.reduceToNat,hr1,Zj1,hr6]
   refine b6 (by kernel_rfl) ?_
   try simp only[dq,seval,-Int.reduceToNat,hr1,Zj1,hr6]
   obtain⟨o9,ho9,hh⟩:=ae hh
   refine ax (fun s t H e=>match s with|(s6b,s7b)=>∃v4b:Nat,t 4=.ptr 4 v4b 0∧t 6=.sl false false s6b.length (ab (eI .i64) s6b)∧t 7=.sl false false s7b.length (ab (eI .i64) s7b)∧H 4=some ⟨v4b,49,[.int .i64 0,.sl true true 0 []],false,false,false⟩) (fun o x t H e=>match o with|s6bx=>x=.exit 0∧∃v4bx:Nat,t 4=.ptr 4 v4bx 0∧t 6=.sl false false s6bx.length (ab (eI .i64) s6bx)∧H 4=some ⟨v4bx,49,[.int .i64 0,.sl true true 0 []],false,false,false⟩) ho9 ?_ ?_ ?_
   ·refine⟨v4j1,?_,?_,?_,?_⟩
    all_goals first|rfl|(simp only[dq,seval,-Int.reduceToNat,hr1,Zj1,hr6]<;>rfl)
   ·rintro⟨s6b,s7b⟩ t H e ⟨v4b,Zb⟩ c hh
    simp only[mO]at hh
    try simp only[dq,seval,-Int.reduceToNat,hr1,hr6,Zb]
    refine sp aj hh (fun _ hh =>?_) (fun _ hh =>?_)
    ·obtain⟨r11,hr11,hh⟩:=ae hh
     cases hh
     try simp only[dq,seval,-Int.reduceToNat,hr1,hr6,Zb,hr11]
     refine jg ?_
     refine⟨v4b,?_,?_,?_,?_⟩
     all_goals first|rfl|(simp only[dq,seval,-Int.reduceToNat,hr1,hr6,Zb,hr11]<;>rfl)
    ·cases hh
     try simp only[dq,seval,-Int.reduceToNat,hr1,hr6,Zb]
     refine kl ?_
     refine⟨rfl,⟨v4b,?_,?_,?_⟩⟩
     all_goals first|rfl|(simp only[dq,seval,-Int.reduceToNat,hr1,hr6,Zb]<;>rfl)
   ·rintro x t H e hx
    obtain⟨s6bx,rfl⟩:∃z,z=o9:=⟨_,rfl⟩
    dsimp only at hx hh
    obtain⟨rfl,⟨v4bx,Zbx⟩⟩:=hx
    obtain⟨r12,hr12,hh⟩:=ae hh
    obtain⟨r13,hr13,hh⟩:=ae hh
    obtain⟨r14,hr14,hh⟩:=ae hh
    cases hh
    try simp only[dq,seval,-Int.reduceToNat,hr1,hr6,Zbx,hr12,hr13,hr14]
 ·clear hh
  have hh:=ho2
  try simp only[dq,seval,-Int.reduceToNat,hr1]
  refine sp aP hh (fun _ hh =>?_) (fun _ hh =>?_)
  ·cases hh
   try simp only[dq,seval,-Int.reduceToNat,hr1]
   rw[al]
   refine⟨_,rfl,?_⟩
   refine⟨0,0,0,?_,?_,?_,?_,?_,?_,?_⟩
   all_goals first|rfl|(simp only[dq,seval,-Int.reduceToNat,hr1]<;>rfl)
  ·obtain⟨r16,hr16,hh⟩:=ae hh
   cases hh
   try simp only[dq,seval,-Int.reduceToNat,hr1,hr16]
   rw[al]
   refine⟨_,rfl,?_⟩
   refine⟨0,0,0,?_,?_,?_,?_,?_,?_,?_⟩
   all_goals first|rfl|(simp only[dq,seval,-Int.reduceToNat,hr1,hr16]<;>rfl)
theorem KP:bI Tryz.prog 98 wv:=bI.of (mode := .clean) tok Kk mixed Tryz.func98 (by kernel_rfl) ⟨by kernel_rfl,by kernel_rfl⟩ (fun _=>Nat.le_of_ble_eq_true (by kernel_rfl)) (fun x r h=>NJ x.1 x.2 r h)
noncomputable def wx:=ez (dJ (dU gN)) (fun x:ay=>pg x) (fun r:Int×Bool =>.clean (.tup [.int .i64 r.1,.bool r.2]))
theorem Es (p0_0:Int) (p0_1:(List Int)):wx none [.agg [.int .i64 p0_0,.sl false false p0_1.length (ab (eI .i64) p0_1)]]=(pg (ay.mk p0_0 p0_1)).map fun r:Int×Bool=>(.clean (.tup [.int .i64 r.1,.bool r.2]),none):=aE _ _ _ ((ay.mk p0_0 p0_1))
noncomputable def sA:Env:=(Am.ext aT 97 false gS)
theorem Kl:bM Tryz.prog sA:=(bM.none.add jZ false)
theorem a8:type_of% (ai @w<|ai @eG<|@sA.eq_1):=⟨@w,@eG,@sA.eq_1⟩
theorem NK (p0:ay) (r:Int×Bool) (hh:pg p0=some r):aQ .clean tab sA FU Tryz.f127 none [.agg [.int .i64 p0.ah,.sl false false p0.aa.length (ab (eI .i64) p0.aa)]]=some (.clean (.tup [.int .i64 r.1,.bool r.2]),none):=by
 refine aw rfl Tryz.ntmps127 Tryz.results127 ?_
 unfold pg at hh
 obtain⟨r1,hr1,hh⟩:=ae hh
 try simp only[a8,seval,-Int.reduceToNat,hr1]
 obtain⟨o2,ho2,hh⟩:=ae hh
 refine bG 0 (fun s t H e=>match s with|s15j1=>∃v1j1:Nat,t 1=.ptr 1 v1j1 0∧t 15=.bool s15j1∧H 1=some ⟨v1j1,49,[.int .i64 p0.ah,.sl false false p0.aa.length (ab (eI .i64) p0.aa)],false,false,false⟩) (fun s=>s=o2) ?_ ?_
 ·rintro s15j1 t H e ⟨v1j1,Zj1⟩ rfl
  try dsimp only at hh
  try simp only[a8,seval,-Int.reduceToNat,hr1,Zj1]
  refine sp aj hh (fun _ hh =>?_) (fun _ hh =>?_)
  ·cases hh
   try simp only[a8,seval,-Int.reduceToNat,hr1,Zj1]
  ·try simp only[a8,seval,-Int.reduceToNat,hr1,Zj1]
   obtain⟨o11,ho11,hh⟩:=ae hh
   refine ax (fun s t H e=>match s with|(s4b,s19b)=>∃v1b:Nat,t 1=.ptr 1 v1b 0∧t 4=.int .u64 s4b∧t 17=.sl false false p0.aa.length (ab (eI .i64) p0.aa)∧t 18=.int .i64 (p0.aa.length:Int)∧t 19=.int .i64 s19b∧H 1=some ⟨v1b,49,[.int .i64 p0.ah,.sl false false p0.aa.length (ab (eI .i64) p0.aa)],false,false,false⟩) (fun o x t H e=>match o with|(.inl s4bx)=>x=.exit 0∧∃v1bx:Nat,t 1=.ptr 1 v1bx 0∧t 4=.int .u64 s4bx∧H 1=some ⟨v1bx,49,[.int .i64 p0.ah,.sl false false p0.aa.length (ab (eI .i64) p0.aa)],false,false,false⟩|(.inr r)=>x=.ret∧fw .clean tab none [.tmp 2,.tmp 3] ⟨t,H,e⟩=some (.clean (.tup [.int .i64 r.1,.bool r.2]),none)) ho11 ?_ ?_ ?_
   ·refine⟨v1j1,?_,?_,?_,?_,?_,?_⟩
    all_goals first|rfl|(simp only[a8,seval,-Int.reduceToNat,hr1,Zj1]<;>rfl)
   ·rintro⟨s4b,s19b⟩ t H e ⟨v1b,Zb⟩ c hh
    simp only[pj]at hh
    try simp only[a8,seval,-Int.reduceToNat,hr1,Zb]
    refine sp aj hh (fun _ hh =>?_) (fun _ hh =>?_)
    ·obtain⟨x13,hx13,hh⟩:=ae hh
     have ax13:=bT (eI .i64) hx13
     simp only[bY]at ax13
     try simp only[a8,seval,-Int.reduceToNat,hr1,Zb,ax13]
     obtain⟨o14,ho14,hh⟩:=ae hh
     refine bG 0 (fun s t H e=>match s with|s29j4=>∃v1j4:Nat,t 1=.ptr 1 v1j4 0∧t 4=.int .u64 s4b∧t 5=.int .i64 s19b∧t 6=.int .i64 x13∧t 17=.sl false false p0.aa.length (ab (eI .i64) p0.aa)∧t 18=.int .i64 (p0.aa.length:Int)∧t 19=.int .i64 s19b∧t 29=.bool s29j4∧H 1=some ⟨v1j4,49,[.int .i64 p0.ah,.sl false false p0.aa.length (ab (eI .i64) p0.aa)],false,false,false⟩) (fun s=>s=o14) ?_ ?_
     ·rintro s29j4 t H e ⟨v1j4,Zj4⟩ rfl
      try dsimp only at hh
      try simp only[a8,seval,-Int.reduceToNat,hr1,ax13,Zj4]
      refine sp aj hh (fun _ hh =>?_) (fun _ hh =>?_)
      ·cases hh
       try simp only[a8,seval,-Int.reduceToNat,hr1,ax13,Zj4]
       refine wq ⟨rfl,?_⟩
       try simp only[a8,seval,-Int.reduceToNat,hr1,ax13,Zj4]
      ·obtain⟨x16,hx16,hh⟩:=ae hh
       have q17:=zg hx16
       cases hh
       try simp only[a8,seval,-Int.reduceToNat,hr1,ax13,Zj4,q17]
       refine jg ?_
       refine⟨v1j4,?_,?_,?_,?_,?_,?_⟩
       all_goals first|rfl|(simp only[a8,seval,-Int.reduceToNat,hr1,ax13,Zj4,q17]<;>rfl)
     ·clear hh
      have hh:=ho14
      try simp only[a8,seval,-Int.reduceToNat,hr1,Zb,ax13]
      refine sp bm hh (fun _ hh =>?_) (fun _ hh =>?_)
      ·cases hh
       try simp only[a8,seval,-Int.reduceToNat,hr1,Zb,ax13]
       rw[al]
       refine⟨_,rfl,?_⟩
       refine⟨v1b,?_,?_,?_,?_,?_,?_,?_,?_,?_⟩
       all_goals first|rfl|(simp only[a8,seval,-Int.reduceToNat,hr1,Zb,ax13]<;>rfl)
      ·cases hh
       try simp only[a8,seval,-Int.reduceToNat,hr1,Zb,ax13]
       rw[al]
       refine⟨_,rfl,?_⟩
       refine⟨v1b,?_,?_,?_,?_,?_,?_,?_,?_,?_⟩
       all_goals first|rfl|(simp only[a8,seval,-Int.reduceToNat,hr1,Zb,ax13]<;>rfl)
    ·cases hh
     try simp only[a8,seval,-Int.reduceToNat,hr1,Zb]
     refine kl ?_
     refine⟨rfl,⟨v1b,?_,?_,?_⟩⟩
     all_goals first|rfl|(simp only[a8,seval,-Int.reduceToNat,hr1,Zb]<;>rfl)
   ·rintro x t H e hx
    rcases o11 with s4bx|rb
    ·dsimp only at hx hh
     obtain⟨rfl,⟨v1bx,Zbx⟩⟩:=hx
     try simp only[a8,seval,-Int.reduceToNat,hr1,Zbx]
     obtain⟨o19,ho19,hh⟩:=ae hh
     refine bG 0 (fun s t H e=>match s with|s38j5=>∃v1j5:Nat,t 1=.ptr 1 v1j5 0∧t 4=.int .u64 s4bx∧t 38=.bool s38j5∧H 1=some ⟨v1j5,49,[.int .i64 p0.ah,.sl false false p0.aa.length (ab (eI .i64) p0.aa)],false,false,false⟩) (fun s=>s=o19) ?_ ?_
     ·rintro s38j5 t H e ⟨v1j5,Zj5⟩ rfl
      try dsimp only at hh
      try simp only[a8,seval,-Int.reduceToNat,hr1,Zj5]
      refine sp aj hh (fun _ hh =>?_) (fun _ hh =>?_)
      ·cases hh
       try simp only[a8,seval,-Int.reduceToNat,hr1,Zj5]
      ·try simp only[a8,seval,-Int.reduceToNat,hr1,Zj5]
       refine sp bm hh (fun _ hh =>?_) (fun _ hh =>?_)
       ·try simp only[a8,seval,-Int.reduceToNat,hr1,Zj5]
        refine sp aj hh (fun _ hh =>?_) (fun _ hh =>?_)
        ·cases hh
         try simp only[a8,seval,-Int.reduceToNat,hr1,Zj5]
        ·cases hh
         try simp only[a8,seval,-Int.reduceToNat,hr1,Zj5]
       ·cases hh
        try simp only[a8,seval,-Int.reduceToNat,hr1,Zj5]
     ·clear hh
      have hh:=ho19
      try simp only[a8,seval,-Int.reduceToNat,hr1,Zbx]
      refine sp bm hh (fun _ hh =>?_) (fun _ hh =>?_)
      ·cases hh
       try simp only[a8,seval,-Int.reduceToNat,hr1,Zbx]
       rw[al]
       refine⟨_,rfl,?_⟩
       refine⟨v1bx,?_,?_,?_,?_⟩
       all_goals first|rfl|(simp only[a8,seval,-Int.reduceToNat,hr1,Zbx]<;>rfl)
      ·cases hh
       try simp only[a8,seval,-Int.reduceToNat,hr1,Zbx]
       rw[al]
       refine⟨_,rfl,?_⟩
       refine⟨v1bx,?_,?_,?_,?_⟩
       all_goals first|rfl|(simp only[a8,seval,-Int.reduceToNat,hr1,Zbx]<;>rfl)
    ·dsimp only at hx hh
     obtain⟨rfl,hE⟩:=hx
     cases hh
     try simp only[aZ,aR,bc,cu,cr]
     exact hE
 ·clear hh
  have hh:=ho2
  try simp only[a8,seval,-Int.reduceToNat,hr1]
  refine sp aP hh (fun _ hh =>?_) (fun _ hh =>?_)
  ·cases hh
   try simp only[a8,seval,-Int.reduceToNat,hr1]
   rw[al]
   refine⟨_,rfl,?_⟩
   refine⟨0,?_,?_,?_⟩
   all_goals first|rfl|(simp only[a8,seval,-Int.reduceToNat,hr1]<;>rfl)
  ·cases hh
   try simp only[a8,seval,-Int.reduceToNat,hr1]
   rw[al]
   refine⟨_,rfl,?_⟩
   refine⟨0,?_,?_,?_⟩
   all_goals first|rfl|(simp only[a8,seval,-Int.reduceToNat,hr1]<;>rfl)
theorem KQ:bI Tryz.prog 127 wx:=bI.of (mode := .clean) tok Kl mixed Tryz.func127 (by kernel_rfl) ⟨by kernel_rfl,by kernel_rfl⟩ (fun _=>Nat.le_of_ble_eq_true (by kernel_rfl)) (fun x r h=>NK x r h)
noncomputable def uc:=ez (dJ (dU gN)) (fun x:ay=>nd x) (fun r:Bool =>.clean (.bool r))
theorem Bu (p0_0:Int) (p0_1:(List Int)):uc none [.agg [.int .i64 p0_0,.sl false false p0_1.length (ab (eI .i64) p0_1)]]=(nd (ay.mk p0_0 p0_1)).map fun r:Bool=>(.clean (.bool r),none):=aE _ _ _ ((ay.mk p0_0 p0_1))
noncomputable def pC:Env:=(Am.ext aT 127 false wx)
theorem HO:bM Tryz.prog pC:=(bM.none.add KQ false)
theorem uH:type_of% (ai @w<|ai @Es<|@pC.eq_1):=⟨@w,@Es,@pC.eq_1⟩
theorem KE (p0:ay) (r:Bool) (hh:nd p0=some r):aQ .clean tab pC FU Tryz.f99 none [.agg [.int .i64 p0.ah,.sl false false p0.aa.length (ab (eI .i64) p0.aa)]]=some (.clean (.bool r),none):=by
 refine aw rfl Tryz.ntmps99 Tryz.results99 ?_
 unfold nd at hh
 obtain⟨r1,hr1,hh⟩:=ae hh
 try simp only[uH,seval,-Int.reduceToNat,hr1]
 refine sp bm hh (fun _ hh =>?_) (fun _ hh =>?_)
 ·cases hh
  try simp only[uH,seval,-Int.reduceToNat,hr1]
 ·cases hh
  try simp only[uH,seval,-Int.reduceToNat,hr1]
theorem I5:bI Tryz.prog 99 uc:=bI.of (mode := .clean) tok HO mixed Tryz.func99 (by kernel_rfl) ⟨by kernel_rfl,by kernel_rfl⟩ (fun _=>Nat.le_of_ble_eq_true (by kernel_rfl)) (fun x r h=>KE x r h)
noncomputable def jK:=ez (dJ (dU mR)) (fun x:ba=>eR x) (fun r:Bool =>.clean (.bool r))
theorem iA (p0_0:Int) (p0_1:(List Int)) (p0_2:Int) (p0_3:(List Int)):jK none [.agg [.int .i64 p0_0,.sl false false p0_1.length (ab (eI .i64) p0_1),.int .i64 p0_2,.sl false false p0_3.length (ab (eI .i64) p0_3)]]=(eR (ba.mk (ay.mk p0_0 p0_1) (ay.mk p0_2 p0_3))).map fun r:Bool=>(.clean (.bool r),none):=aE _ _ _ ((ba.mk (ay.mk p0_0 p0_1) (ay.mk p0_2 p0_3)))
noncomputable def mc:Env:=(Am.ext (Am.ext (Am.ext aT 97 false gS) 98 false wv) 99 false uc)
theorem Cj:bM Tryz.prog mc:=(((bM.none.add jZ false).add KP false).add I5 false)
theorem cJ:type_of% (ai @w<|ai @eG<|ai @Er<|ai @Bu<|@mc.eq_1):=⟨@w,@eG,@Er,@Bu,@mc.eq_1⟩
theorem FK (p0:ba) (r:Bool) (hh:eR p0=some r):aQ .clean tab mc FU Tryz.f57 none [.agg [.int .i64 p0.cH.ah,.sl false false p0.cH.aa.length (ab (eI .i64) p0.cH.aa),.int .i64 p0.cB.ah,.sl false false p0.cB.aa.length (ab (eI .i64) p0.cB.aa)]]=some (.clean (.bool r),none):=by
 refine aw rfl Tryz.ntmps57 Tryz.results57 ?_
 unfold eR at hh
 obtain⟨r1,hr1,hh⟩:=ae hh
 try simp only[cJ,seval,-Int.reduceToNat,hr1]
 obtain⟨o2,ho2,hh⟩:=ae hh
 refine bG 0 (fun s t H e=>match s with|s20j1=>∃v1j1:Nat,t 1=.ptr 1 v1j1 0∧t 20=.bool s20j1∧H 1=some ⟨v1j1,51,[.int .i64 p0.cH.ah,.sl false false p0.cH.aa.length (ab (eI .i64) p0.cH.aa),.int .i64 p0.cB.ah,.sl false false p0.cB.aa.length (ab (eI .i64) p0.cB.aa)],false,false,false⟩) (fun s=>s=o2) ?_ ?_
 ·rintro s20j1 t H e ⟨v1j1,Zj1⟩ rfl
  try dsimp only at hh
  try simp only[cJ,seval,-Int.reduceToNat,hr1,Zj1]
  refine sp aj hh (fun _ hh =>?_) (fun _ hh =>?_)
  ·cases hh
   try simp only[cJ,seval,-Int.reduceToNat,hr1,Zj1]
  ·obtain⟨r4,hr4,hh⟩:=ae hh
   try simp only[cJ,seval,-Int.reduceToNat,hr1,Zj1,hr4]
   refine sp bm hh (fun _ hh =>?_) (fun _ hh =>?_)
   ·obtain⟨r6,hr6,hh⟩:=ae hh
    cases hh
    try simp only[cJ,seval,-Int.reduceToNat,hr1,Zj1,hr4,hr6]
   ·cases hh
    try simp only[cJ,seval,-Int.reduceToNat,hr1,Zj1,hr4]
 ·clear hh
  have hh:=ho2
  try simp only[cJ,seval,-Int.reduceToNat,hr1]
  refine sp aP hh (fun _ hh =>?_) (fun _ hh =>?_)
  ·cases hh
   try simp only[cJ,seval,-Int.reduceToNat,hr1]
   rw[al]
   refine⟨_,rfl,?_⟩
   refine⟨0,?_,?_,?_⟩
   all_goals first|rfl|(simp only[cJ,seval,-Int.reduceToNat,hr1]<;>rfl)
  ·obtain⟨r8,hr8,hh⟩:=ae hh
   try simp only[cJ,seval,-Int.reduceToNat,hr1,hr8]
   refine sp aP hh (fun _ hh =>?_) (fun _ hh =>?_)
   ·cases hh
    try simp only[cJ,seval,-Int.reduceToNat,hr1,hr8]
    rw[al]
    refine⟨_,rfl,?_⟩
    refine⟨0,?_,?_,?_⟩
    all_goals first|rfl|(simp only[cJ,seval,-Int.reduceToNat,hr1,hr8]<;>rfl)
   ·cases hh
    try simp only[cJ,seval,-Int.reduceToNat,hr1,hr8]
    rw[al]
    refine⟨_,rfl,?_⟩
    refine⟨0,?_,?_,?_⟩
    all_goals first|rfl|(simp only[cJ,seval,-Int.reduceToNat,hr1,hr8]<;>rfl)
theorem ox:bI Tryz.prog 57 jK:=bI.of (mode := .clean) tok Cj mixed Tryz.func57 (by kernel_rfl) ⟨by kernel_rfl,by kernel_rfl⟩ (fun _=>Nat.le_of_ble_eq_true (by kernel_rfl)) (fun x r h=>FK x r h)
noncomputable def wy:=ez (dX (dU gN) (dJ (dU gN))) (fun x:ay×ay=>uO x.1 x.2) (fun r:ay×Int =>.clean (.tup [.agg [.int .i64 r.1.ah,.sl false false r.1.aa.length (ab (eI .i64) r.1.aa)],.int .i64 r.2]))
theorem Et (p0_0:Int) (p0_1:(List Int)) (p1_0:Int) (p1_1:(List Int)):wy none [.agg [.int .i64 p0_0,.sl false false p0_1.length (ab (eI .i64) p0_1)],.agg [.int .i64 p1_0,.sl false false p1_1.length (ab (eI .i64) p1_1)]]=(uO (ay.mk p0_0 p0_1) (ay.mk p1_0 p1_1)).map fun r:ay×Int=>(.clean (.tup [.agg [.int .i64 r.1.ah,.sl false false r.1.aa.length (ab (eI .i64) r.1.aa)],.int .i64 r.2]),none):=aE _ _ _ ((ay.mk p0_0 p0_1),(ay.mk p1_0 p1_1))
noncomputable def sB:Env:=(Am.ext (Am.ext (Am.ext (Am.ext aT 97 false gS) 124 false kN) 126 false jI) 164 false sj)
theorem Km:bM Tryz.prog sB:=((((bM.none.add jZ false).add rS false).add ow false).add Bg false)
theorem gJ:type_of% (ai @w<|ai @eG<|ai @gF<|ai @iz<|ai @mD<|@sB.eq_1):=⟨@w,@eG,@gF,@iz,@mD,@sB.eq_1⟩
theorem NL (p0:ay) (p1:ay) (r:ay×Int) (hh:uO p0 p1=some r):aQ .clean tab sB FU Tryz.f130 none [.agg [.int .i64 p0.ah,.sl false false p0.aa.length (ab (eI .i64) p0.aa)],.agg [.int .i64 p1.ah,.sl false false p1.aa.length (ab (eI .i64) p1.aa)]]=some (.clean (.tup [.agg [.int .i64 r.1.ah,.sl false false r.1.aa.length (ab (eI .i64) r.1.aa)],.int .i64 r.2]),none):=by
 refine aw rfl Tryz.ntmps130 Tryz.results130 ?_
 unfold uO at hh
 obtain⟨r1,hr1,hh⟩:=ae hh
 try simp only[gJ,seval,-Int.reduceToNat,hr1]
 obtain⟨o2,ho2,hh⟩:=ae hh
 refine bG 0 (fun s t H e=>match s with|s13j1=>∃v2j1:Nat,∃v3j1:Nat,∃v4j1:Nat,t 2=.ptr 2 v2j1 0∧t 3=.ptr 3 v3j1 0∧t 4=.ptr 4 v4j1 0∧t 13=.bool s13j1∧H 2=some ⟨v2j1,49,[.int .i64 p0.ah,.sl false false p0.aa.length (ab (eI .i64) p0.aa)],false,false,false⟩∧H 3=some ⟨v3j1,49,[.int .i64 p1.ah,.sl false false p1.aa.length (ab (eI .i64) p1.aa)],false,false,false⟩∧H 4=some ⟨v4j1,49,[.int .i64 0,.sl true true 0 []],false,false,false⟩) (fun s=>s=o2) ?_ ?_
 ·rintro s13j1 t H e ⟨v2j1,v3j1,v4j1,Zj1⟩ rfl
  try dsimp only at hh
  try simp only[gJ,seval,-Int.reduceToNat,hr1,Zj1]
  refine sp aj hh (fun _ hh =>?_) (fun _ hh =>?_)
  ·have i4:=gF false 0 ([])
   simp only[aF,bY,List.length_cons,List.length_nil,Nat.zero_add,Nat.reduceAdd,List.length_set]at i4
   obtain⟨r5,hr5,hh⟩:=ae hh
   cases hh
   try simp only[gJ,seval,-Int.reduceToNat,hr1,Zj1,i4,hr5]
  ·obtain⟨r6,hr6,hh⟩:=ae hh
   obtain⟨r7,hr7,hh⟩:=ae hh
   obtain⟨r8,hr8,hh⟩:=ae hh
   try simp only[gJ,seval,-Int.reduceToNat,hr1,Zj1,hr6,hr7,hr8]
   refine b6 (by kernel_rfl) ?_
   cases hh
   try simp only[gJ,seval,-Int.reduceToNat,hr1,Zj1,hr6,hr7,hr8]
 ·clear hh
  have hh:=ho2
  try simp only[gJ,seval,-Int.reduceToNat,hr1]
  refine sp aP hh (fun _ hh =>?_) (fun _ hh =>?_)
  ·cases hh
   try simp only[gJ,seval,-Int.reduceToNat,hr1]
   rw[al]
   refine⟨_,rfl,?_⟩
   refine⟨0,0,0,?_,?_,?_,?_,?_,?_,?_⟩
   all_goals first|rfl|(simp only[gJ,seval,-Int.reduceToNat,hr1]<;>rfl)
  ·obtain⟨r10,hr10,hh⟩:=ae hh
   cases hh
   try simp only[gJ,seval,-Int.reduceToNat,hr1,hr10]
   rw[al]
   refine⟨_,rfl,?_⟩
   refine⟨0,0,0,?_,?_,?_,?_,?_,?_,?_⟩
   all_goals first|rfl|(simp only[gJ,seval,-Int.reduceToNat,hr1,hr10]<;>rfl)
theorem KR:bI Tryz.prog 130 wy:=bI.of (mode := .clean) tok Km mixed Tryz.func130 (by kernel_rfl) ⟨by kernel_rfl,by kernel_rfl⟩ (fun _=>Nat.le_of_ble_eq_true (by kernel_rfl)) (fun x r h=>NL x.1 x.2 r h)
noncomputable def oX:=ez (dX (dU gN) (dJ (dU gN))) (fun x:ay×ay=>kA x.1 x.2) (fun r:ay =>.clean (.agg [.int .i64 r.ah,.sl false false r.aa.length (ab (eI .i64) r.aa)]))
theorem vN (p0_0:Int) (p0_1:(List Int)) (p1_0:Int) (p1_1:(List Int)):oX none [.agg [.int .i64 p0_0,.sl false false p0_1.length (ab (eI .i64) p0_1)],.agg [.int .i64 p1_0,.sl false false p1_1.length (ab (eI .i64) p1_1)]]=(kA (ay.mk p0_0 p0_1) (ay.mk p1_0 p1_1)).map fun r:ay=>(.clean (.agg [.int .i64 r.ah,.sl false false r.aa.length (ab (eI .i64) r.aa)]),none):=aE _ _ _ ((ay.mk p0_0 p0_1),(ay.mk p1_0 p1_1))
noncomputable def me:Env:=(Am.ext aT 130 false wy)
theorem Ck:bM Tryz.prog me:=(bM.none.add KR false)
theorem Gu:type_of% (ai @w<|ai @Et<|@me.eq_1):=⟨@w,@Et,@me.eq_1⟩
theorem FL (p0:ay) (p1:ay) (r:ay) (hh:kA p0 p1=some r):aQ .clean tab me FU Tryz.f101 none [.agg [.int .i64 p0.ah,.sl false false p0.aa.length (ab (eI .i64) p0.aa)],.agg [.int .i64 p1.ah,.sl false false p1.aa.length (ab (eI .i64) p1.aa)]]=some (.clean (.agg [.int .i64 r.ah,.sl false false r.aa.length (ab (eI .i64) r.aa)]),none):=by
 refine aw rfl Tryz.ntmps101 Tryz.results101 ?_
 unfold kA at hh
 obtain⟨r1,hr1,hh⟩:=ae hh
 cases hh
 try simp only[Gu,seval,-Int.reduceToNat,hr1]
theorem CH:bI Tryz.prog 101 oX:=bI.of (mode := .clean) tok Ck mixed Tryz.func101 (by kernel_rfl) ⟨by kernel_rfl,by kernel_rfl⟩ (fun _=>Nat.le_of_ble_eq_true (by kernel_rfl)) (fun x r h=>FL x.1 x.2 r h)
noncomputable def og:=ez (dX (dU gN) (dJ (dU gN))) (fun x:ay×ay=>lp x.1 x.2) (fun r:Int =>.clean (.int .i64 r))
theorem tI (p0_0:Int) (p0_1:(List Int)) (p1_0:Int) (p1_1:(List Int)):og none [.agg [.int .i64 p0_0,.sl false false p0_1.length (ab (eI .i64) p0_1)],.agg [.int .i64 p1_0,.sl false false p1_1.length (ab (eI .i64) p1_1)]]=(lp (ay.mk p0_0 p0_1) (ay.mk p1_0 p1_1)).map fun r:Int=>(.clean (.int .i64 r),none):=aE _ _ _ ((ay.mk p0_0 p0_1),(ay.mk p1_0 p1_1))
noncomputable def kX:Env:=(Am.ext (Am.ext (Am.ext aT 97 false gS) 128 false kP) 129 false kO)
theorem AL:bM Tryz.prog kX:=(((bM.none.add jZ false).add rV false).add rT false)
theorem cR:type_of% (ai @w<|ai @eG<|ai @lk<|ai @lj<|@kX.eq_1):=⟨@w,@eG,@lk,@lj,@kX.eq_1⟩
theorem Cx (p0:ay) (p1:ay) (r:Int) (hh:lp p0 p1=some r):aQ .clean tab kX FU Tryz.f100 none [.agg [.int .i64 p0.ah,.sl false false p0.aa.length (ab (eI .i64) p0.aa)],.agg [.int .i64 p1.ah,.sl false false p1.aa.length (ab (eI .i64) p1.aa)]]=some (.clean (.int .i64 r),none):=by
 refine aw rfl Tryz.ntmps100 Tryz.results100 ?_
 unfold lp at hh
 obtain⟨r1,hr1,hh⟩:=ae hh
 try simp only[cR,seval,-Int.reduceToNat,hr1]
 obtain⟨o2,ho2,hh⟩:=ae hh
 refine bG 0 (fun s t H e=>match s with|s12j1=>∃v2j1:Nat,∃v3j1:Nat,t 2=.ptr 2 v2j1 0∧t 3=.ptr 3 v3j1 0∧t 12=.bool s12j1∧H 2=some ⟨v2j1,49,[.int .i64 p0.ah,.sl false false p0.aa.length (ab (eI .i64) p0.aa)],false,false,false⟩∧H 3=some ⟨v3j1,49,[.int .i64 p1.ah,.sl false false p1.aa.length (ab (eI .i64) p1.aa)],false,false,false⟩) (fun s=>s=o2) ?_ ?_
 ·rintro s12j1 t H e ⟨v2j1,v3j1,Zj1⟩ rfl
  try dsimp only at hh
  try simp only[cR,seval,-Int.reduceToNat,hr1,Zj1]
  refine sp aj hh (fun _ hh =>?_) (fun _ hh =>?_)
  ·cases hh
   try simp only[cR,seval,-Int.reduceToNat,hr1,Zj1]
  ·try simp only[cR,seval,-Int.reduceToNat,hr1,Zj1]
   refine sp aj hh (fun _ hh =>?_) (fun _ hh =>?_)
   ·obtain⟨r5,hr5,hh⟩:=ae hh
    cases hh
    try simp only[cR,seval,-Int.reduceToNat,hr1,Zj1,hr5]
   ·obtain⟨r6,hr6,hh⟩:=ae hh
    try simp only[cR,seval,-Int.reduceToNat,hr1,Zj1,hr6]
    refine b6 (by kernel_rfl) ?_
    cases hh
    try simp only[cR,seval,-Int.reduceToNat,hr1,Zj1,hr6]
 ·clear hh
  have hh:=ho2
  try simp only[cR,seval,-Int.reduceToNat,hr1]
  refine sp aP hh (fun _ hh =>?_) (fun _ hh =>?_)
  ·cases hh
   try simp only[cR,seval,-Int.reduceToNat,hr1]
   rw[al]
   refine⟨_,rfl,?_⟩
   refine⟨0,0,?_,?_,?_,?_,?_⟩
   all_goals first|rfl|(simp only[cR,seval,-Int.reduceToNat,hr1]<;>rfl)
  ·obtain⟨r8,hr8,hh⟩:=ae hh
   cases hh
   try simp only[cR,seval,-Int.reduceToNat,hr1,hr8]
   rw[al]
   refine⟨_,rfl,?_⟩
   refine⟨0,0,?_,?_,?_,?_,?_⟩
   all_goals first|rfl|(simp only[cR,seval,-Int.reduceToNat,hr1,hr8]<;>rfl)
theorem Bf:bI Tryz.prog 100 og:=bI.of (mode := .clean) tok AL mixed Tryz.func100 (by kernel_rfl) ⟨by kernel_rfl,by kernel_rfl⟩ (fun _=>Nat.le_of_ble_eq_true (by kernel_rfl)) (fun x r h=>Cx x.1 x.2 r h)
noncomputable def jJ:=ez (dX (dU mR) (dJ (dU mR))) (fun x:ba×ba=>gi x.1 x.2) (fun r:Int =>.clean (.int .i64 r))
theorem j7 (p0_0:Int) (p0_1:(List Int)) (p0_2:Int) (p0_3:(List Int)) (p1_0:Int) (p1_1:(List Int)) (p1_2:Int) (p1_3:(List Int)):jJ none [.agg [.int .i64 p0_0,.sl false false p0_1.length (ab (eI .i64) p0_1),.int .i64 p0_2,.sl false false p0_3.length (ab (eI .i64) p0_3)],.agg [.int .i64 p1_0,.sl false false p1_1.length (ab (eI .i64) p1_1),.int .i64 p1_2,.sl false false p1_3.length (ab (eI .i64) p1_3)]]=(gi (ba.mk (ay.mk p0_0 p0_1) (ay.mk p0_2 p0_3)) (ba.mk (ay.mk p1_0 p1_1) (ay.mk p1_2 p1_3))).map fun r:Int=>(.clean (.int .i64 r),none):=aE _ _ _ ((ba.mk (ay.mk p0_0 p0_1) (ay.mk p0_2 p0_3)),(ba.mk (ay.mk p1_0 p1_1) (ay.mk p1_2 p1_3)))
noncomputable def jV:Env:=(Am.ext (Am.ext (Am.ext aT 57 false jK) 100 false og) 101 false oX)
theorem yO:bM Tryz.prog jV:=(((bM.none.add ox false).add Bf false).add CH false)
theorem di:type_of% (ai @w<|ai @iA<|ai @tI<|ai @vN<|@jV.eq_1):=⟨@w,@iA,@tI,@vN,@jV.eq_1⟩
theorem A5 (p0:ba) (p1:ba) (r:Int) (hh:gi p0 p1=some r):aQ .clean tab jV FU Tryz.f58 none [.agg [.int .i64 p0.cH.ah,.sl false false p0.cH.aa.length (ab (eI .i64) p0.cH.aa),.int .i64 p0.cB.ah,.sl false false p0.cB.aa.length (ab (eI .i64) p0.cB.aa)],.agg [.int .i64 p1.cH.ah,.sl false false p1.cH.aa.length (ab (eI .i64) p1.cH.aa),.int .i64 p1.cB.ah,.sl false false p1.cB.aa.length (ab (eI .i64) p1.cB.aa)]]=some (.clean (.int .i64 r),none):=by
 refine aw rfl Tryz.ntmps58 Tryz.results58 ?_
 unfold gi at hh
 obtain⟨r1,hr1,hh⟩:=ae hh
 try simp only[di,seval,-Int.reduceToNat,hr1]
 obtain⟨o2,ho2,hh⟩:=ae hh
 refine bG 0 (fun s t H e=>match s with|s12j1=>∃v2j1:Nat,∃v3j1:Nat,t 2=.ptr 2 v2j1 0∧t 3=.ptr 3 v3j1 0∧t 12=.bool s12j1∧H 2=some ⟨v2j1,51,[.int .i64 p0.cH.ah,.sl false false p0.cH.aa.length (ab (eI .i64) p0.cH.aa),.int .i64 p0.cB.ah,.sl false false p0.cB.aa.length (ab (eI .i64) p0.cB.aa)],false,false,false⟩∧H 3=some ⟨v3j1,51,[.int .i64 p1.cH.ah,.sl false false p1.cH.aa.length (ab (eI .i64) p1.cH.aa),.int .i64 p1.cB.ah,.sl false false p1.cB.aa.length (ab (eI .i64) p1.cB.aa)],false,false,false⟩) (fun s=>s=o2) ?_ ?_
 ·rintro s12j1 t H e ⟨v2j1,v3j1,Zj1⟩ rfl
  try dsimp only at hh
  try simp only[di,seval,-Int.reduceToNat,hr1,Zj1]
  refine sp aj hh (fun _ hh =>?_) (fun _ hh =>?_)
  ·cases hh
   try simp only[di,seval,-Int.reduceToNat,hr1,Zj1]
  ·obtain⟨r4,hr4,hh⟩:=ae hh
   obtain⟨r5,hr5,hh⟩:=ae hh
   obtain⟨r6,hr6,hh⟩:=ae hh
   try simp only[di,seval,-Int.reduceToNat,hr1,Zj1,hr4,hr5,hr6]
   refine b6 (by kernel_rfl) ?_
   cases hh
   try simp only[di,seval,-Int.reduceToNat,hr1,Zj1,hr4,hr5,hr6]
 ·clear hh
  have hh:=ho2
  try simp only[di,seval,-Int.reduceToNat,hr1]
  refine sp aP hh (fun _ hh =>?_) (fun _ hh =>?_)
  ·cases hh
   try simp only[di,seval,-Int.reduceToNat,hr1]
   rw[al]
   refine⟨_,rfl,?_⟩
   refine⟨0,0,?_,?_,?_,?_,?_⟩
   all_goals first|rfl|(simp only[di,seval,-Int.reduceToNat,hr1]<;>rfl)
  ·obtain⟨r8,hr8,hh⟩:=ae hh
   cases hh
   try simp only[di,seval,-Int.reduceToNat,hr1,hr8]
   rw[al]
   refine⟨_,rfl,?_⟩
   refine⟨0,0,?_,?_,?_,?_,?_⟩
   all_goals first|rfl|(simp only[di,seval,-Int.reduceToNat,hr1,hr8]<;>rfl)
theorem qu:bI Tryz.prog 58 jJ:=bI.of (mode := .clean) tok yO mixed Tryz.func58 (by kernel_rfl) ⟨by kernel_rfl,by kernel_rfl⟩ (fun _=>Nat.le_of_ble_eq_true (by kernel_rfl)) (fun x r h=>A5 x.1 x.2 r h)
noncomputable def l3:=ez (dJ (dU mS)) (fun x:gx=>kG x) (fun r:Bool =>.clean (.bool r))
theorem mw (p0_0:Int) (p0_1:(List Int)) (p0_2:Int) (p0_3:(List Int)) (p0_4:Int) (p0_5:(List Int)) (p0_6:Int) (p0_7:(List Int)):l3 none [.agg [.int .i64 p0_0,.sl false false p0_1.length (ab (eI .i64) p0_1),.int .i64 p0_2,.sl false false p0_3.length (ab (eI .i64) p0_3),.int .i64 p0_4,.sl false false p0_5.length (ab (eI .i64) p0_5),.int .i64 p0_6,.sl false false p0_7.length (ab (eI .i64) p0_7)]]=(kG (gx.mk (ba.mk (ay.mk p0_0 p0_1) (ay.mk p0_2 p0_3)) (ba.mk (ay.mk p0_4 p0_5) (ay.mk p0_6 p0_7)))).map fun r:Bool=>(.clean (.bool r),none):=aE _ _ _ ((gx.mk (ba.mk (ay.mk p0_0 p0_1) (ay.mk p0_2 p0_3)) (ba.mk (ay.mk p0_4 p0_5) (ay.mk p0_6 p0_7))))
noncomputable def mf:Env:=(Am.ext (Am.ext aT 57 false jK) 58 false jJ)
theorem Cl:bM Tryz.prog mf:=((bM.none.add ox false).add qu false)
theorem ki:type_of% (ai @w<|ai @iA<|ai @j7<|@mf.eq_1):=⟨@w,@iA,@j7,@mf.eq_1⟩
theorem FN (p0:gx) (r:Bool) (hh:kG p0=some r):aQ .clean tab mf FU Tryz.f30 none [.agg [.int .i64 p0.bz.cH.ah,.sl false false p0.bz.cH.aa.length (ab (eI .i64) p0.bz.cH.aa),.int .i64 p0.bz.cB.ah,.sl false false p0.bz.cB.aa.length (ab (eI .i64) p0.bz.cB.aa),.int .i64 p0.aY.cH.ah,.sl false false p0.aY.cH.aa.length (ab (eI .i64) p0.aY.cH.aa),.int .i64 p0.aY.cB.ah,.sl false false p0.aY.cB.aa.length (ab (eI .i64) p0.aY.cB.aa)]]=some (.clean (.bool r),none):=by
 refine aw rfl Tryz.ntmps30 Tryz.results30 ?_
 unfold kG at hh
 obtain⟨r1,hr1,hh⟩:=ae hh
 try simp only[ki,seval,-Int.reduceToNat,hr1]
 refine sp bm hh (fun _ hh =>?_) (fun _ hh =>?_)
 ·obtain⟨r3,hr3,hh⟩:=ae hh
  try simp only[ki,seval,-Int.reduceToNat,hr1,hr3]
  refine sp bm hh (fun _ hh =>?_) (fun _ hh =>?_)
  ·obtain⟨r5,hr5,hh⟩:=ae hh
   cases hh
   try simp only[ki,seval,-Int.reduceToNat,hr1,hr3,hr5]
  ·cases hh
   try simp only[ki,seval,-Int.reduceToNat,hr1,hr3]
 ·cases hh
  try simp only[ki,seval,-Int.reduceToNat,hr1]
theorem tF:bI Tryz.prog 30 l3:=bI.of (mode := .clean) tok Cl mixed Tryz.func30 (by kernel_rfl) ⟨by kernel_rfl,by kernel_rfl⟩ (fun _=>Nat.le_of_ble_eq_true (by kernel_rfl)) (fun x r h=>FN x r h)
noncomputable def lP:=ez (dJ (dU a7)) (fun x:aK=>iM x) (fun r:Bool =>.clean (.bool r))
theorem qw (p0_0:Int) (p0_1:Int) (p0_2:(List Int)) (p0_3:Int) (p0_4:(List Int)) (p0_5:Int) (p0_6:(List Int)) (p0_7:Int) (p0_8:(List Int)):lP none [.agg [.int .i64 p0_0,.int .i64 p0_1,.sl false false p0_2.length (ab (eI .i64) p0_2),.int .i64 p0_3,.sl false false p0_4.length (ab (eI .i64) p0_4),.int .i64 p0_5,.sl false false p0_6.length (ab (eI .i64) p0_6),.int .i64 p0_7,.sl false false p0_8.length (ab (eI .i64) p0_8)]]=(iM (aK.mk p0_0 (gx.mk (ba.mk (ay.mk p0_1 p0_2) (ay.mk p0_3 p0_4)) (ba.mk (ay.mk p0_5 p0_6) (ay.mk p0_7 p0_8))))).map fun r:Bool=>(.clean (.bool r),none):=aE _ _ _ ((aK.mk p0_0 (gx.mk (ba.mk (ay.mk p0_1 p0_2) (ay.mk p0_3 p0_4)) (ba.mk (ay.mk p0_5 p0_6) (ay.mk p0_7 p0_8)))))
noncomputable def iZ:Env:=(Am.ext aT 30 false l3)
theorem wW:bM Tryz.prog iZ:=(bM.none.add tF false)
theorem y3:type_of% (ai @w<|ai @mw<|@iZ.eq_1):=⟨@w,@mw,@iZ.eq_1⟩
theorem yP (p0:aK) (r:Bool) (hh:iM p0=some r):aQ .clean tab iZ FU Tryz.f41 none [.agg [.int .i64 p0.eu,.int .i64 p0.cc.bz.cH.ah,.sl false false p0.cc.bz.cH.aa.length (ab (eI .i64) p0.cc.bz.cH.aa),.int .i64 p0.cc.bz.cB.ah,.sl false false p0.cc.bz.cB.aa.length (ab (eI .i64) p0.cc.bz.cB.aa),.int .i64 p0.cc.aY.cH.ah,.sl false false p0.cc.aY.cH.aa.length (ab (eI .i64) p0.cc.aY.cH.aa),.int .i64 p0.cc.aY.cB.ah,.sl false false p0.cc.aY.cB.aa.length (ab (eI .i64) p0.cc.aY.cB.aa)]]=some (.clean (.bool r),none):=by
 refine aw rfl Tryz.ntmps41 Tryz.results41 ?_
 unfold iM at hh
 obtain⟨r1,hr1,hh⟩:=ae hh
 cases hh
 try simp only[y3,seval,-Int.reduceToNat,hr1]
theorem xc:bI Tryz.prog 41 lP:=bI.of (mode := .clean) tok wW mixed Tryz.func41 (by kernel_rfl) ⟨by kernel_rfl,by kernel_rfl⟩ (fun _=>Nat.le_of_ble_eq_true (by kernel_rfl)) (fun x r h=>yP x r h)
noncomputable def jL:=ez (dJ (aI .u64)) (fun x:Int=>gz x) (fun r:Int =>.clean (.int .i64 r))
theorem nY (p0:Int):jL none [.int .u64 p0]=(gz p0).map fun r:Int=>(.clean (.int .i64 r),none):=aE _ _ _ (p0)
theorem vC (p0:Int) (r:Int) (hh:gz p0=some r):aQ .clean tab aT FU Tryz.f149 none [.int .u64 p0]=some (.clean (.int .i64 r),none):=by
 refine aw rfl Tryz.ntmps149 Tryz.results149 ?_
 unfold gz at hh
 try simp only[w,seval,-Int.reduceToNat]
 obtain⟨o1,ho1,hh⟩:=ae hh
 refine lM 0 (fun s t H e=>match s with|(s0j1,s2j1)=>t 0=.int .u64 s0j1∧t 2=.int .i64 s2j1) (fun s=>s=o1) ?_ ?_
 ·rintro⟨s0j1,s2j1⟩ t H e Zj1 rfl
  try dsimp only at hh
  try simp only[w,seval,-Int.reduceToNat,Zj1]
  obtain⟨o2,ho2,hh⟩:=ae hh
  refine lM 0 (fun s t H e=>match s with|(s0j2,s2j2)=>t 0=.int .u64 s0j2∧t 2=.int .i64 s2j2) (fun s=>s=o2) ?_ ?_
  ·rintro⟨s0j2,s2j2⟩ t H e Zj2 rfl
   try dsimp only at hh
   try simp only[w,seval,-Int.reduceToNat,Zj2]
   refine sp aj hh (fun _ hh =>?_) (fun _ hh =>?_)
   ·obtain⟨x4,hx4,hh⟩:=ae hh
    have q5:=p7 hx4
    try simp only[w,seval,-Int.reduceToNat,Zj2,q5]
    obtain⟨x6,hx6,hh⟩:=ae hh
    obtain⟨q7a,q7b,q7c,q7d⟩:=ML hx6
    try simp only[w,seval,-Int.reduceToNat,Zj2,q5,q7a,q7d]
    erw [q7c]
    cases hh
    try simp only[w,seval,-Int.reduceToNat,Zj2,q5,q7a,q7d]
   ·try simp only[w,seval,-Int.reduceToNat,Zj2]
    obtain⟨x8,hx8,hh⟩:=ae hh
    obtain⟨q9a,q9b,q9c,q9d⟩:=ML hx8
    try simp only[w,seval,-Int.reduceToNat,Zj2,q9a,q9d]
    erw [q9c]
    cases hh
    try simp only[w,seval,-Int.reduceToNat,Zj2,q9a,q9d]
  ·clear hh
   have hh:=ho2
   try simp only[w,seval,-Int.reduceToNat,Zj1]
   refine sp aj hh (fun _ hh =>?_) (fun _ hh =>?_)
   ·obtain⟨x11,hx11,hh⟩:=ae hh
    have q12:=p7 hx11
    cases hh
    try simp only[w,seval,-Int.reduceToNat,Zj1,q12]
    rw[al]
    refine⟨_,rfl,?_⟩
    refine⟨?_,?_⟩
    all_goals first|rfl|(simp only[w,seval,-Int.reduceToNat,Zj1,q12]<;>rfl)
   ·cases hh
    try simp only[w,seval,-Int.reduceToNat,Zj1]
    rw[al]
    refine⟨_,rfl,?_⟩
    refine⟨?_,?_⟩
    all_goals first|rfl|(simp only[w,seval,-Int.reduceToNat,Zj1]<;>rfl)
 ·clear hh
  have hh:=ho1
  try simp only[w,seval,-Int.reduceToNat]
  refine sp aj hh (fun _ hh =>?_) (fun _ hh =>?_)
  ·obtain⟨x14,hx14,hh⟩:=ae hh
   have q15:=p7 hx14
   cases hh
   try simp only[w,seval,-Int.reduceToNat,q15]
   rw[al]
   refine⟨_,rfl,?_⟩
   refine⟨?_,?_⟩
   all_goals first|rfl|(simp only[w,seval,-Int.reduceToNat,q15]<;>rfl)
  ·cases hh
   try simp only[w,seval,-Int.reduceToNat]
   rw[al]
   refine⟨_,rfl,?_⟩
   refine⟨?_,?_⟩
   all_goals first|rfl|(simp only[w,seval,-Int.reduceToNat]<;>rfl)
theorem uw:bI Tryz.prog 149 jL:=bI.of (mode := .clean) tok bM.none mixed Tryz.func149 (by kernel_rfl) ⟨by kernel_rfl,by kernel_rfl⟩ (fun _=>Nat.le_of_ble_eq_true (by kernel_rfl)) (fun x r h=>vC x r h)
noncomputable def lQ:=ez (dJ (aI .u64)) (fun x:Int=>iP x) (fun r:Int =>.clean (.int .i64 r))
theorem qy (p0:Int):lQ none [.int .u64 p0]=(iP p0).map fun r:Int=>(.clean (.int .i64 r),none):=aE _ _ _ (p0)
noncomputable def ja:Env:=(Am.ext aT 149 false jL)
theorem wX:bM Tryz.prog ja:=(bM.none.add uw false)
theorem y4:type_of% (ai @w<|ai @nY<|@ja.eq_1):=⟨@w,@nY,@ja.eq_1⟩
theorem yQ (p0:Int) (r:Int) (hh:iP p0=some r):aQ .clean tab ja FU Tryz.f107 none [.int .u64 p0]=some (.clean (.int .i64 r),none):=by
 refine aw rfl Tryz.ntmps107 Tryz.results107 ?_
 unfold iP at hh
 obtain⟨r1,hr1,hh⟩:=ae hh
 cases hh
 try simp only[y4,seval,-Int.reduceToNat,hr1]
theorem xd:bI Tryz.prog 107 lQ:=bI.of (mode := .clean) tok wX mixed Tryz.func107 (by kernel_rfl) ⟨by kernel_rfl,by kernel_rfl⟩ (fun _=>Nat.le_of_ble_eq_true (by kernel_rfl)) (fun x r h=>yQ x r h)
noncomputable def ua:=ez (dX (aI .i64) (dJ (aI .i64))) (fun x:Int×Int=>rf x.1 x.2) (fun r:Bool =>.clean (.bool r))
theorem Br (p0:Int) (p1:Int):ua none [.int .i64 p0,.int .i64 p1]=(rf p0 p1).map fun r:Bool=>(.clean (.bool r),none):=aE _ _ _ (p0,p1)
noncomputable def pA:Env:=(Am.ext aT 166 false nE)
theorem HM:bM Tryz.prog pA:=(bM.none.add vF false)
theorem ny:type_of% (ai @w<|ai @nX<|@pA.eq_1):=⟨@w,@nX,@pA.eq_1⟩
theorem KC (p0:Int) (p1:Int) (r:Bool) (hh:rf p0 p1=some r):aQ .clean tab pA FU Tryz.f145 none [.int .i64 p0,.int .i64 p1]=some (.clean (.bool r),none):=by
 refine aw rfl Tryz.ntmps145 Tryz.results145 ?_
 unfold rf at hh
 obtain⟨r1,hr1,hh⟩:=ae hh
 try simp only[ny,seval,-Int.reduceToNat,hr1]
 refine sp bm hh (fun _ hh =>?_) (fun _ hh =>?_)
 ·obtain⟨r3,hr3,hh⟩:=ae hh
  try simp only[ny,seval,-Int.reduceToNat,hr1,hr3]
  refine sp aP hh (fun _ hh =>?_) (fun _ hh =>?_)
  ·cases hh
   try simp only[ny,seval,-Int.reduceToNat,hr1,hr3]
  ·cases hh
   try simp only[ny,seval,-Int.reduceToNat,hr1,hr3]
 ·cases hh
  try simp only[ny,seval,-Int.reduceToNat,hr1]
theorem I3:bI Tryz.prog 145 ua:=bI.of (mode := .clean) tok HM mixed Tryz.func145 (by kernel_rfl) ⟨by kernel_rfl,by kernel_rfl⟩ (fun _=>Nat.le_of_ble_eq_true (by kernel_rfl)) (fun x r h=>KC x.1 x.2 r h)
noncomputable def dL:=Ow 3 (eI .i64) (dX (aI .i64) (dJ (aI .i64))) (fun (l:(List Int)) (x:Int×Int)=>bA l x.1 x.2) (fun r:Unit =>.clean (.tup []))
theorem ko (pre post:List D) (p0:(List Int)) (p1:Int) (p2:Int):dL (some (.buf 0 0 1 pre.length p0.length,⟨0,3,pre++(ab (eI .i64) p0++post),false,true,false⟩)) [.int .i64 p1,.int .i64 p2]=(bA p0 p1 p2).map fun r=>(.clean (.tup []),some ⟨0,3,pre++(ab (eI .i64) r.1++post),false,true,false⟩):=Bb _ _ _ _ _ pre post p0 (p1,p2)
noncomputable def cO:Env:=(Am.ext aT 145 false ua)
theorem jW:bM Tryz.prog cO:=(bM.none.add I3 false)
theorem an:type_of% (ai @w<|ai @Br<|@cO.eq_1):=⟨@w,@Br,@cO.eq_1⟩
theorem kn (pre post:List D) (p0:(List Int)) (p1:Int) (p2:Int) (r:(List Int)×(Unit)) (hh:bA p0 p1 p2=some r):aQ .clean tab cO FU Tryz.f139 (some (.buf 0 0 1 pre.length p0.length,⟨0,3,pre++(ab (eI .i64) p0++post),false,true,false⟩)) [.int .i64 p1,.int .i64 p2]=some (.clean (.tup []),some ⟨0,3,pre++(ab (eI .i64) r.1++post),false,true,false⟩):=by
 refine nw rfl Tryz.ntmps139 Tryz.results139 ?_
 unfold bA at hh
 obtain⟨rw,hrw,hh⟩:=ae hh
 split at hh
 rotate_left
 ·cases hh
 cases hh
 rename_i hlen
 replace hh:=hrw
 unfold fv at hh
 try simp only[an,seval,-Int.reduceToNat]
 obtain⟨o25,ho25,hh⟩:=ae hh
 refine ax (fun s t H e=>match s with|(s6a,l0a)=>t 0=.buf 0 0 1 pre.length (l0a).length∧t 1=.int .i64 p1∧t 2=.int .i64 p2∧t 6=.int .i64 s6a∧H 0=some ⟨0,3,pre++(ab (eI .i64) l0a++post),false,true,false⟩) (fun o x t H e=>match o with|l0ax=>x=.exit 0∧t 0=.buf 0 0 1 pre.length (l0ax).length∧H 0=some ⟨0,3,pre++(ab (eI .i64) l0ax++post),false,true,false⟩) ho25 ?_ ?_ ?_
 ·refine⟨?_,?_,?_,?_,?_⟩
  all_goals first|rfl|(simp only[an,seval,-Int.reduceToNat]<;>rfl)
 ·rintro⟨s6a,l0a⟩ t H e Za c hh
  simp only[fj]at hh
  try simp only[an,seval,-Int.reduceToNat,Za]
  refine sp aj hh (fun _ hh =>?_) (fun _ hh =>?_)
  ·try simp only[an,seval,-Int.reduceToNat,Za]
   obtain⟨o38,ho38,hh⟩:=ae hh
   refine ax (fun s t H e=>match s with|(s7e,l0e)=>t 0=.buf 0 0 1 pre.length (l0e).length∧t 1=.int .i64 p1∧t 2=.int .i64 p2∧t 6=.int .i64 s6a∧t 7=.int .i64 s7e∧H 0=some ⟨0,3,pre++(ab (eI .i64) l0e++post),false,true,false⟩) (fun o x t H e=>match o with|l0ex=>x=.exit 2∧t 0=.buf 0 0 1 pre.length (l0ex).length∧t 1=.int .i64 p1∧t 2=.int .i64 p2∧t 6=.int .i64 s6a∧H 0=some ⟨0,3,pre++(ab (eI .i64) l0ex++post),false,true,false⟩) ho38 ?_ ?_ ?_
   ·refine⟨?_,?_,?_,?_,?_,?_⟩
    all_goals first|rfl|(simp only[an,seval,-Int.reduceToNat,Za]<;>rfl)
   ·rintro⟨s7e,l0e⟩ t H e Ze c hh
    simp only[fk]at hh
    try simp only[an,seval,-Int.reduceToNat,Ze]
    obtain⟨o39,ho39,hh⟩:=ae hh
    refine JN 0 (fun s t H e=>match s with|s30j7=>t 0=.buf 0 0 1 pre.length (l0e).length∧t 1=.int .i64 p1∧t 2=.int .i64 p2∧t 6=.int .i64 s6a∧t 7=.int .i64 s7e∧t 30=.bool s30j7∧H 0=some ⟨0,3,pre++(ab (eI .i64) l0e++post),false,true,false⟩) (fun s=>s=o39) ?_ ?_
    ·rintro s30j7 t H e Zj7 rfl
     try dsimp only at hh
     try simp only[an,seval,-Int.reduceToNat,Zj7]
     refine sp aj hh (fun _ hh =>?_) (fun _ hh =>?_)
     ·obtain⟨x41,hx41,hh⟩:=ae hh
      have ax41:=rJ (pre:=pre) (post:=post) (eI .i64) hx41
      simp only[bY]at ax41
      obtain⟨x42,hx42,hh⟩:=ae hh
      have ax42:=rJ (pre:=pre) (post:=post) (eI .i64) hx42
      simp only[bY]at ax42
      have ax42:=rJ (pre:=pre) (post:=post) (eI .i64) hx42
      simp only[bY]at ax42
      have p43:=vK (pre:=pre) (post:=post) (eI .i64) (y':=x41) hx42
      simp only[bY]at p43
      have up43:=p43
      simp only[putCells,List.length_cons,List.length_nil,Nat.zero_add,Nat.reduceAdd]at up43
      obtain⟨x44,hx44,hh⟩:=ae hh
      have ax44:=rJ (pre:=pre) (post:=post) (eI .i64) hx44
      simp only[bY,List.length_set]at ax44
      have p45:=vK (pre:=pre) (post:=post) (eI .i64) (y':=x42) hx44
      simp only[bY]at p45
      have up45:=p45
      simp only[putCells,List.length_cons,List.length_nil,Nat.zero_add,Nat.reduceAdd]at up45
      try simp only[an,seval,-Int.reduceToNat,Zj7,ax41,ax42,ax42,p43,up43,ax44,p45,up45]
      refine b6 (by kernel_rfl) ?_
      cases hh
      try simp only[an,seval,-Int.reduceToNat,Zj7,ax41,ax42,ax42,p43,up43,ax44,p45,up45]
      refine jg ?_
      refine⟨?_,?_,?_,?_,?_,?_⟩
      all_goals first|rfl|(simp only[an,seval,-Int.reduceToNat,Zj7,ax41,ax42,ax42,p43,up43,ax44,p45,up45]<;>rfl)
     ·cases hh
      try simp only[an,seval,-Int.reduceToNat,Zj7]
      refine kl ?_
      refine⟨rfl,⟨?_,?_,?_,?_,?_⟩⟩
      all_goals first|rfl|(simp only[an,seval,-Int.reduceToNat,Zj7]<;>rfl)
    ·clear hh
     have hh:=ho39
     try simp only[an,seval,-Int.reduceToNat,Ze]
     refine sp wc hh (fun _ hh =>?_) (fun _ hh =>?_)
     ·obtain⟨x47,hx47,hh⟩:=ae hh
      have ax47:=rJ (pre:=pre) (post:=post) (eI .i64) hx47
      simp only[bY]at ax47
      obtain⟨x48,hx48,hh⟩:=ae hh
      have ax48:=rJ (pre:=pre) (post:=post) (eI .i64) hx48
      simp only[bY]at ax48
      obtain⟨r49,hr49,hh⟩:=ae hh
      try simp only[an,seval,-Int.reduceToNat,Ze,ax47,ax48,hr49]
      refine b6 (by kernel_rfl) ?_
      cases hh
      try simp only[an,seval,-Int.reduceToNat,Ze,ax47,ax48,hr49]
      rw[al]
      refine⟨_,rfl,?_⟩
      refine⟨?_,?_,?_,?_,?_,?_,?_⟩
      all_goals first|rfl|(simp only[an,seval,-Int.reduceToNat,Ze,ax47,ax48,hr49]<;>rfl)
     ·try simp only[an,seval,-Int.reduceToNat,Ze]
      refine b6 (by kernel_rfl) ?_
      cases hh
      try simp only[an,seval,-Int.reduceToNat,Ze]
      rw[al]
      refine⟨_,rfl,?_⟩
      refine⟨?_,?_,?_,?_,?_,?_,?_⟩
      all_goals first|rfl|(simp only[an,seval,-Int.reduceToNat,Ze]<;>rfl)
   ·rintro x t H e hx
    obtain⟨l0ex,rfl⟩:∃z,z=o38:=⟨_,rfl⟩
    dsimp only at hx hh
    obtain⟨rfl,Zex⟩:=hx
    cases hh
    try simp only[an,seval,-Int.reduceToNat,Zex]
    refine jg ?_
    refine⟨?_,?_,?_,?_,?_⟩
    all_goals first|rfl|(simp only[an,seval,-Int.reduceToNat,Zex]<;>rfl)
  ·cases hh
   try simp only[an,seval,-Int.reduceToNat,Za]
   refine kl ?_
   refine⟨rfl,⟨?_,?_⟩⟩
   all_goals first|rfl|(simp only[an,seval,-Int.reduceToNat,Za]<;>rfl)
 ·rintro x t H e hx
  obtain⟨l0ax,rfl⟩:∃z,z=o25:=⟨_,rfl⟩
  dsimp only at hx hh
  obtain⟨rfl,Zax⟩:=hx
  cases hh
  try simp only[an,seval,-Int.reduceToNat,Zax]
theorem j0:bI Tryz.prog 139 dL:=bI.Mu (mode := .clean) tok jW mixed Tryz.func139 (by kernel_rfl) ⟨by kernel_rfl,by kernel_rfl⟩ (fun _=>Nat.le_of_ble_eq_true (by kernel_rfl)) (fun pre post l x l' r h=>kn pre post l x.1 x.2 (l',r) h)
noncomputable def eW:=Ow 3 (eI .i64) (dX (aI .i64) (dX (aI .i64) (dJ (aI .i64)))) (fun (l:(List Int)) (x:Int×Int×Int)=>cf l x.1 x.2.1 x.2.2) (fun r:Unit =>.clean (.tup []))
theorem nD (pre post:List D) (p0:(List Int)) (p1:Int) (p2:Int) (p3:Int):eW (some (.buf 0 0 1 pre.length p0.length,⟨0,3,pre++(ab (eI .i64) p0++post),false,true,false⟩)) [.int .i64 p1,.int .i64 p2,.int .i64 p3]=(cf p0 p1 p2 p3).map fun r=>(.clean (.tup []),some ⟨0,3,pre++(ab (eI .i64) r.1++post),false,true,false⟩):=Bb _ _ _ _ _ pre post p0 (p1,p2,p3)
noncomputable def dM:Env:=(Am.ext aT 139 true dL)
theorem nf:bM Tryz.prog dM:=(bM.none.add j0 true)
theorem cl:type_of% (ai @w<|@dM.eq_1):=⟨@w,@dM.eq_1⟩
theorem nC (pre post:List D) (p0:(List Int)) (p1:Int) (p2:Int) (p3:Int) (r:(List Int)×(Unit)) (hh:cf p0 p1 p2 p3=some r):aQ .clean tab dM FU Tryz.f106 (some (.buf 0 0 1 pre.length p0.length,⟨0,3,pre++(ab (eI .i64) p0++post),false,true,false⟩)) [.int .i64 p1,.int .i64 p2,.int .i64 p3]=some (.clean (.tup []),some ⟨0,3,pre++(ab (eI .i64) r.1++post),false,true,false⟩):=by
 refine nw rfl Tryz.ntmps106 Tryz.results106 ?_
 unfold cf at hh
 obtain⟨rw,hrw,hh⟩:=ae hh
 split at hh
 rotate_left
 ·cases hh
 cases hh
 rename_i hlen
 replace hh:=hrw
 unfold iH at hh
 try simp only[cl,seval,-Int.reduceToNat]
 obtain⟨o6,ho6,hh⟩:=ae hh
 refine ax (fun s t H e=>match s with|_=>t 0=.buf 0 0 1 pre.length (p0).length∧t 1=.int .i64 p1∧t 2=.int .i64 p2∧t 3=.int .i64 p3∧t 8=.bool true∧t 9=.bool true∧H 0=some ⟨0,3,pre++(ab (eI .i64) p0++post),false,true,false⟩) (fun o x t H e=>match o with|r=>x=.ret∧fw .clean tab (some (.buf 0 0 1 pre.length p0.length,⟨0,3,pre++(ab (eI .i64) p0++post),false,true,false⟩)) [] ⟨t,H,e⟩=some (.clean (.tup []),some ⟨0,3,pre++(ab (eI .i64) r.1++post),false,true,false⟩)) ho6 ?_ ?_ ?_
 ·refine⟨?_,?_,?_,?_,?_,?_,?_⟩
  all_goals first|rfl|(simp only[cl,seval,-Int.reduceToNat]<;>rfl)
 ·rintro _ t H e Za c hh
  simp only[ik]at hh
  try simp only[cl,seval,-Int.reduceToNat,Za]
  refine sp aj hh (fun _ hh =>?_) (fun _ hh =>?_)
  ·have i8:=ko pre post p0 p1 p2
   try simp only[List.nil_append,List.append_nil,List.length_nil,aF,List.length_set,bY]at i8
   obtain⟨r9,hr9,hh⟩:=ae hh
   have q10l:=jF hr9
   cases hh
   try simp only[cl,seval,-Int.reduceToNat,Za,i8,hr9,q10l]
   refine wq ⟨rfl,?_⟩
   try simp only[cl,seval,-Int.reduceToNat,Za,i8,hr9,q10l]
  ·try simp only[cl,seval,-Int.reduceToNat,Za]
   refine sp aj hh (fun _ hh =>?_) (fun _ hh =>?_)
   ·cases hh
   ·cases hh
 ·rintro x t H e hx
  rcases o6 with ra
  dsimp only at hx hh
  obtain⟨rfl,hE⟩:=hx
  cases hh
  try simp only[aZ,aR,bc,cu,cr]
  exact hE
theorem ng:bI Tryz.prog 106 eW:=bI.Mu (mode := .clean) tok nf mixed Tryz.func106 (by kernel_rfl) ⟨by kernel_rfl,by kernel_rfl⟩ (fun _=>Nat.le_of_ble_eq_true (by kernel_rfl)) (fun pre post l x l' r h=>nC pre post l x.1 x.2.1 x.2.2 (l',r) h)
noncomputable def yI:=Ow 3 (eI .i64) (RQ) (fun (l:(List Int)) (x:Unit)=>oB l) (fun r:Unit =>.clean (.tup []))
noncomputable def jb:Env:=(Am.ext (Am.ext aT 106 true eW) 107 false lQ)
theorem wY:bM Tryz.prog jb:=((bM.none.add ng true).add xd false)
theorem y5:type_of% (ai @w<|ai @qy<|@jb.eq_1):=⟨@w,@qy,@jb.eq_1⟩
theorem yR (pre post:List D) (p0:(List Int)) (r:(List Int)×(Unit)) (hh:oB p0=some r):aQ .clean tab jb FU Tryz.f69 (some (.buf 0 0 1 pre.length p0.length,⟨0,3,pre++(ab (eI .i64) p0++post),false,true,false⟩)) []=some (.clean (.tup []),some ⟨0,3,pre++(ab (eI .i64) r.1++post),false,true,false⟩):=by
 refine nw rfl Tryz.ntmps69 Tryz.results69 ?_
 unfold oB at hh
 obtain⟨rw,hrw,hh⟩:=ae hh
 split at hh
 rotate_left
 ·cases hh
 cases hh
 rename_i hlen
 replace hh:=hrw
 unfold qD at hh
 obtain⟨r1,hr1,hh⟩:=ae hh
 have i2:=nD pre post p0 0 ((p0).length:Int) r1
 try simp only[List.nil_append,List.append_nil,List.length_nil,aF,List.length_set,bY]at i2
 obtain⟨r3,hr3,hh⟩:=ae hh
 have q4l:=mo hr3
 cases hh
 try simp only[y5,seval,-Int.reduceToNat,hr1,i2,hr3,q4l]
theorem xe:bI Tryz.prog 69 yI:=bI.Mu (mode := .clean) tok wY mixed Tryz.func69 (by kernel_rfl) ⟨by kernel_rfl,by kernel_rfl⟩ (fun _=>Nat.le_of_ble_eq_true (by kernel_rfl)) (fun pre post l x l' r h=>yR pre post l (l',r) h)
noncomputable def oZ:=Ow 3 (eI .i64) RQ (fun (l:(List Int)) (_:Unit)=>jk l) (fun _:Unit =>.clean (.tup []))
theorem Gf (pre post:List D) (p0:(List Int)):oZ (some (.buf 0 0 1 pre.length p0.length,⟨0,3,pre++(ab (eI .i64) p0++post),false,true,false⟩)) []=(jk p0).map fun r=>(.clean (.tup []),some ⟨0,3,pre++(ab (eI .i64) r.1++post),false,true,false⟩):=Bb _ _ _ _ _ pre post p0 ()
theorem U6:OD Tryz.prog 69:=fun blk off cap zs w hH hb hl=>Any.slices_Sort_int Tryz.FG blk off cap zs w hH hb hl
theorem CI:bI Tryz.prog 69 oZ:=SH Tryz.func69 ⟨by kernel_rfl,by kernel_rfl⟩ (fun l=>by simp only[jk]) xe (by kernel_rfl) U6
noncomputable def fZ:=Tq 3 (eI .i64) RQ (fun (l:(List Int)) (_:Unit)=>ij l)
theorem nh (pre post:List D) (p0:(List Int)):fZ (some (.buf 0 0 1 pre.length p0.length,⟨0,3,pre++(ab (eI .i64) p0++post),false,true,false⟩)) []=(ij p0).map fun r=>(.fresh 3 1 r.length (ab (eI .i64) r),none):=Qd _ _ _ _ pre post p0 ()
theorem lX:bI Tryz.prog 70 fZ:=J9 Tryz.func70 ⟨by kernel_rfl,by kernel_rfl⟩ ⟨fun blk off cap zs w h1 h2 h3=>Any.slices_Compact_int Tryz.P3 blk off cap zs w h1 h2 h3,fun a cap w=>Any.slices_Compact_int_empty Tryz.P3 a cap w⟩
noncomputable def kM:=ez (dJ (gg (eI .i64))) (fun x:(List Int)=>fN x) (fun r:Bool =>.clean (.bool r))
theorem lh (p0:(List Int)):kM none [.sl false false p0.length (ab (eI .i64) p0)]=(fN p0).map fun r:Bool=>(.clean (.bool r),none):=aE _ _ _ (p0)
noncomputable def kW:Env:=(Am.ext (Am.ext (Am.ext aT 65 false eh) 69 true oZ) 70 true fZ)
theorem AK:bM Tryz.prog kW:=(((bM.none.add gn false).add CI true).add lX true)
theorem CV:type_of% (ai @w<|ai @da<|@kW.eq_1):=⟨@w,@da,@kW.eq_1⟩
theorem Cw (p0:(List Int)) (r:Bool) (hh:fN p0=some r):aQ .clean tab kW FU Tryz.f42 none [.sl false false p0.length (ab (eI .i64) p0)]=some (.clean (.bool r),none):=by
 refine aw rfl Tryz.ntmps42 Tryz.results42 ?_
 unfold fN at hh
 obtain⟨r1,hr1,hh⟩:=ae hh
 have i2:=Gf [] [] r1
 try simp only[List.nil_append,List.append_nil,List.length_nil,aF,List.length_set,bY]at i2
 obtain⟨r3,hr3,hh⟩:=ae hh
 have q4l:=A2 hr3
 replace q4l:=q4l.symm
 try simp only[q4l]at i2
 have i5:=nh [] [] r3.1
 try simp only[List.nil_append,List.append_nil,List.length_nil,aF,List.length_set,bY]at i5
 obtain⟨r6,hr6,hh⟩:=ae hh
 cases hh
 try simp only[CV,seval,-Int.reduceToNat,hr1,i2,hr3,q4l,i5,hr6]
theorem rR:bI Tryz.prog 42 kM:=bI.of (mode := .clean) tok AK mixed Tryz.func42 (by kernel_rfl) ⟨by kernel_rfl,by kernel_rfl⟩ (fun _=>Nat.le_of_ble_eq_true (by kernel_rfl)) (fun x r h=>Cw x r h)
noncomputable def fX:=ez (dX (dU bX) (dJ (OF (eI .i64)))) (fun x:bQ×Int=>dZ x.1 x.2) (fun r:Bool =>.clean (.bool r))
theorem j5 (p0_0:Int) (p0_1:(List Int)) (p0_2:ByteArray) (p0_3:Int) (p0_4:Int) (p1:Int):fX none [.agg [.int .i64 p0_0,.sl false false p0_1.length (ab (eI .i64) p0_1),.str p0_2,.int .i64 p0_3,.int .i64 p0_4],.ip [.int .i64 p1]]=(dZ (bQ.mk p0_0 p0_1 p0_2 p0_3 p0_4) p1).map fun r:Bool=>(.clean (.bool r),none):=aE _ _ _ ((bQ.mk p0_0 p0_1 p0_2 p0_3 p0_4),p1)
theorem pK (p0:bQ) (p1:Int) (r:Bool) (hh:dZ p0 p1=some r):aQ .clean tab aT FU Tryz.f72 none [.agg [.int .i64 p0.eu,.sl false false p0.kz.length (ab (eI .i64) p0.kz),.str p0.ct,.int .i64 p0.aN,.int .i64 p0.aU],.ip [.int .i64 p1]]=some (.clean (.bool r),none):=by
 refine aw rfl Tryz.ntmps72 Tryz.results72 ?_
 unfold dZ at hh
 cases hh
 try simp only[w,seval,-Int.reduceToNat]
theorem oP:bI Tryz.prog 72 fX:=bI.of (mode := .clean) tok bM.none mixed Tryz.func72 (by kernel_rfl) ⟨by kernel_rfl,by kernel_rfl⟩ (fun _=>Nat.le_of_ble_eq_true (by kernel_rfl)) (fun x r h=>pK x.1 x.2 r h)
noncomputable def ui:=ez (dX (dU fA) (dJ (aI .i64))) (fun x:az×Int=>sh x.1 x.2) (fun r:Bool =>.clean (.bool r))
theorem By (p0_0:(List av)) (p1:Int):ui none [.agg [.sl false false p0_0.length (ab aq p0_0)],.int .i64 p1]=(sh (az.mk p0_0) p1).map fun r:Bool=>(.clean (.bool r),none):=aE _ _ _ ((az.mk p0_0),p1)
theorem KN (p0:az) (p1:Int) (r:Bool) (hh:sh p0 p1=some r):aQ .clean tab aT FU Tryz.f95 none [.agg [.sl false false p0.ak.length (ab aq p0.ak)],.int .i64 p1]=some (.clean (.bool r),none):=by
 refine aw rfl Tryz.ntmps95 Tryz.results95 ?_
 unfold sh at hh
 try simp only[w,seval,-Int.reduceToNat]
 refine sp bm hh (fun _ hh =>?_) (fun _ hh =>?_)
 ·cases hh
  try simp only[w,seval,-Int.reduceToNat]
 ·cases hh
  try simp only[w,seval,-Int.reduceToNat]
theorem Jb:bI Tryz.prog 95 ui:=bI.of (mode := .clean) tok bM.none mixed Tryz.func95 (by kernel_rfl) ⟨by kernel_rfl,by kernel_rfl⟩ (fun _=>Nat.le_of_ble_eq_true (by kernel_rfl)) (fun x r h=>KN x.1 x.2 r h)
noncomputable def pd:=ez (dX (dU fA) (dJ (gg (eI .i64)))) (fun x:az×(List Int)=>nt x.1 x.2) (fun r:Bool =>.clean (.bool r))
theorem vQ (p0_0:(List av)) (p1:(List Int)):pd none [.agg [.sl false false p0_0.length (ab aq p0_0)],.sl false false p1.length (ab (eI .i64) p1)]=(nt (az.mk p0_0) p1).map fun r:Bool=>(.clean (.bool r),none):=aE _ _ _ ((az.mk p0_0),p1)
noncomputable def mj:Env:=(Am.ext (Am.ext aT 39 false fp) 95 false ui)
theorem Cp:bM Tryz.prog mj:=((bM.none.add gZ false).add Jb false)
theorem aX:type_of% (ai @w<|ai @df<|ai @By<|@mj.eq_1):=⟨@w,@df,@By,@mj.eq_1⟩
theorem FT (p0:az) (p1:(List Int)) (r:Bool) (hh:nt p0 p1=some r):aQ .clean tab mj FU Tryz.f150 none [.agg [.sl false false p0.ak.length (ab aq p0.ak)],.sl false false p1.length (ab (eI .i64) p1)]=some (.clean (.bool r),none):=by
 refine aw rfl Tryz.ntmps150 Tryz.results150 ?_
 unfold nt at hh
 obtain⟨r1,hr1,hh⟩:=ae hh
 try simp only[aX,seval,-Int.reduceToNat,hr1]
 obtain⟨o2,ho2,hh⟩:=ae hh
 refine bG 0 (fun s t H e=>match s with|s15j1=>∃v2j1:Nat,t 1=.sl false false p1.length (ab (eI .i64) p1)∧t 2=.ptr 2 v2j1 0∧t 15=.bool s15j1∧H 2=some ⟨v2j1,24,[.sl false false p0.ak.length (ab aq p0.ak)],false,false,false⟩) (fun s=>s=o2) ?_ ?_
 ·rintro s15j1 t H e ⟨v2j1,Zj1⟩ rfl
  try dsimp only at hh
  try simp only[aX,seval,-Int.reduceToNat,hr1,Zj1]
  refine sp aj hh (fun _ hh =>?_) (fun _ hh =>?_)
  ·cases hh
   try simp only[aX,seval,-Int.reduceToNat,hr1,Zj1]
  ·try simp only[aX,seval,-Int.reduceToNat,hr1,Zj1]
   obtain⟨o13,ho13,hh⟩:=ae hh
   refine ax (fun s t H e=>match s with|s18b=>∃v2b:Nat,t 1=.sl false false p1.length (ab (eI .i64) p1)∧t 2=.ptr 2 v2b 0∧t 16=.sl false false p1.length (ab (eI .i64) p1)∧t 17=.int .i64 (p1.length:Int)∧t 18=.int .i64 s18b∧H 2=some ⟨v2b,24,[.sl false false p0.ak.length (ab aq p0.ak)],false,false,false⟩) (fun o x t H e=>match o with|(.inl _)=>x=.exit 0|(.inr r)=>x=.ret∧fw .clean tab none [.tmp 4] ⟨t,H,e⟩=some (.clean (.bool r),none)) ho13 ?_ ?_ ?_
   ·refine⟨v2j1,?_,?_,?_,?_,?_,?_⟩
    all_goals first|rfl|(simp only[aX,seval,-Int.reduceToNat,hr1,Zj1]<;>rfl)
   ·rintro s18b t H e ⟨v2b,Zb⟩ c hh
    simp only[tY]at hh
    try simp only[aX,seval,-Int.reduceToNat,hr1,Zb]
    refine sp aj hh (fun _ hh =>?_) (fun _ hh =>?_)
    ·obtain⟨x15,hx15,hh⟩:=ae hh
     have ax15:=bT (eI .i64) hx15
     simp only[bY]at ax15
     obtain⟨r16,hr16,hh⟩:=ae hh
     try simp only[aX,seval,-Int.reduceToNat,hr1,Zb,ax15,hr16]
     refine sp aj hh (fun _ hh =>?_) (fun _ hh =>?_)
     ·cases hh
      try simp only[aX,seval,-Int.reduceToNat,hr1,Zb,ax15,hr16]
      refine wq ⟨rfl,?_⟩
      try simp only[aX,seval,-Int.reduceToNat,hr1,Zb,ax15,hr16]
     ·try simp only[aX,seval,-Int.reduceToNat,hr1,Zb,ax15,hr16]
      refine sp aj hh (fun _ hh =>?_) (fun _ hh =>?_)
      ·obtain⟨x19,hx19,hh⟩:=ae hh
       have ax19:=bT (eI .i64) hx19
       simp only[bY]at ax19
       obtain⟨x20,hx20,hh⟩:=ae hh
       have ax20:=bT aq hx20
       simp only[bY]at ax20
       try simp only[aX,seval,-Int.reduceToNat,hr1,Zb,ax15,hr16,ax19,ax20]
       refine b6 (by kernel_rfl) ?_
       try simp only[aX,seval,-Int.reduceToNat,hr1,Zb,ax15,hr16,ax19,ax20]
       refine sp bm hh (fun _ hh =>?_) (fun _ hh =>?_)
       ·try simp only[aX,seval,-Int.reduceToNat,hr1,Zb,ax15,hr16,ax19,ax20]
        refine sp aj hh (fun _ hh =>?_) (fun _ hh =>?_)
        ·cases hh
         try simp only[aX,seval,-Int.reduceToNat,hr1,Zb,ax15,hr16,ax19,ax20]
         refine wq ⟨rfl,?_⟩
         try simp only[aX,seval,-Int.reduceToNat,hr1,Zb,ax15,hr16,ax19,ax20]
        ·cases hh
         try simp only[aX,seval,-Int.reduceToNat,hr1,Zb,ax15,hr16,ax19,ax20]
         refine jg ?_
         refine⟨v2b,?_,?_,?_,?_,?_,?_⟩
         all_goals first|rfl|(simp only[aX,seval,-Int.reduceToNat,hr1,Zb,ax15,hr16,ax19,ax20]<;>rfl)
       ·cases hh
        try simp only[aX,seval,-Int.reduceToNat,hr1,Zb,ax15,hr16,ax19,ax20]
        refine jg ?_
        refine⟨v2b,?_,?_,?_,?_,?_,?_⟩
        all_goals first|rfl|(simp only[aX,seval,-Int.reduceToNat,hr1,Zb,ax15,hr16,ax19,ax20]<;>rfl)
      ·cases hh
       try simp only[aX,seval,-Int.reduceToNat,hr1,Zb,ax15,hr16]
       refine jg ?_
       refine⟨v2b,?_,?_,?_,?_,?_,?_⟩
       all_goals first|rfl|(simp only[aX,seval,-Int.reduceToNat,hr1,Zb,ax15,hr16]<;>rfl)
    ·cases hh
     try simp only[aX,seval,-Int.reduceToNat,hr1,Zb]
     refine kl ?_
     exact rfl
   ·rintro x t H e hx
    rcases o13 with _|rb
    ·dsimp only at hx hh
     subst hx
     cases hh
     try simp only[aX,seval,-Int.reduceToNat,hr1]
    ·dsimp only at hx hh
     obtain⟨rfl,hE⟩:=hx
     cases hh
     try simp only[aZ,aR,bc,cu,cr]
     exact hE
 ·clear hh
  have hh:=ho2
  try simp only[aX,seval,-Int.reduceToNat,hr1]
  refine sp aP hh (fun _ hh =>?_) (fun _ hh =>?_)
  ·cases hh
   try simp only[aX,seval,-Int.reduceToNat,hr1]
   rw[al]
   refine⟨_,rfl,?_⟩
   refine⟨0,?_,?_,?_,?_⟩
   all_goals first|rfl|(simp only[aX,seval,-Int.reduceToNat,hr1]<;>rfl)
  ·cases hh
   try simp only[aX,seval,-Int.reduceToNat,hr1]
   rw[al]
   refine⟨_,rfl,?_⟩
   refine⟨0,?_,?_,?_,?_⟩
   all_goals first|rfl|(simp only[aX,seval,-Int.reduceToNat,hr1]<;>rfl)
theorem CN:bI Tryz.prog 150 pd:=bI.of (mode := .clean) tok Cp mixed Tryz.func150 (by kernel_rfl) ⟨by kernel_rfl,by kernel_rfl⟩ (fun _=>Nat.le_of_ble_eq_true (by kernel_rfl)) (fun x r h=>FT x.1 x.2 r h)
noncomputable def oq:=ez (dJ (dU aq)) (fun x:av=>lL x) (fun r:Bool =>.clean (.bool r))
theorem tL (p0_0:ByteArray) (p0_1:Int) (p0_2:Int) (p0_3:Int) (p0_4:Int):oq none [.agg [.str p0_0,.int .i64 p0_1,.int .i64 p0_2,.int .i64 p0_3,.int .i64 p0_4]]=(lL (av.mk p0_0 p0_1 p0_2 p0_3 p0_4)).map fun r:Bool=>(.clean (.bool r),none):=aE _ _ _ ((av.mk p0_0 p0_1 p0_2 p0_3 p0_4))
theorem CD (p0:av) (r:Bool) (hh:lL p0=some r):aQ .clean tab aT FU Tryz.f123 none [.agg [.str p0.ct,.int .i64 p0.aN,.int .i64 p0.aU,.int .i64 p0.ca,.int .i64 p0.bK]]=some (.clean (.bool r),none):=by
 refine aw rfl Tryz.ntmps123 Tryz.results123 ?_
 unfold lL at hh
 cases hh
 try simp only[w,seval,-Int.reduceToNat]
theorem Bj:bI Tryz.prog 123 oq:=bI.of (mode := .clean) tok bM.none mixed Tryz.func123 (by kernel_rfl) ⟨by kernel_rfl,by kernel_rfl⟩ (fun _=>Nat.le_of_ble_eq_true (by kernel_rfl)) (fun x r h=>CD x r h)
noncomputable def kQ:=ez (dX (dU fA) (dX (aI .i64) (dX RW (dX (aI .i64) (dJ (aI .i64)))))) (fun x:az×Int×ByteArray×Int×Int=>eJ x.1 x.2.1 x.2.2.1 x.2.2.2.1 x.2.2.2.2) (fun r:Bool =>.clean (.bool r))
theorem ll (p0_0:(List av)) (p1:Int) (p2:ByteArray) (p3:Int) (p4:Int):kQ none [.agg [.sl false false p0_0.length (ab aq p0_0)],.int .i64 p1,.str p2,.int .i64 p3,.int .i64 p4]=(eJ (az.mk p0_0) p1 p2 p3 p4).map fun r:Bool=>(.clean (.bool r),none):=aE _ _ _ ((az.mk p0_0),p1,p2,p3,p4)
noncomputable def ld:Env:=(Am.ext (Am.ext aT 39 false fp) 91 false gT)
theorem AP:bM Tryz.prog ld:=((bM.none.add gZ false).add lU false)
theorem cA:type_of% (ai @w<|ai @df<|ai @fF<|@ld.eq_1):=⟨@w,@df,@fF,@ld.eq_1⟩
theorem CE (p0:az) (p1:Int) (p2:ByteArray) (p3:Int) (p4:Int) (r:Bool) (hh:eJ p0 p1 p2 p3 p4=some r):aQ .clean tab ld FU Tryz.f84 none [.agg [.sl false false p0.ak.length (ab aq p0.ak)],.int .i64 p1,.str p2,.int .i64 p3,.int .i64 p4]=some (.clean (.bool r),none):=by
 refine aw rfl Tryz.ntmps84 Tryz.results84 ?_
 unfold eJ at hh
 obtain⟨r1,hr1,hh⟩:=ae hh
 try simp only[cA,seval,-Int.reduceToNat,hr1]
 obtain⟨o2,ho2,hh⟩:=ae hh
 refine bG 0 (fun s t H e=>match s with|s23j1=>∃v5j1:Nat,t 1=.int .i64 p1∧t 2=.str p2∧t 3=.int .i64 p3∧t 4=.int .i64 p4∧t 5=.ptr 5 v5j1 0∧t 23=.bool s23j1∧H 5=some ⟨v5j1,24,[.sl false false p0.ak.length (ab aq p0.ak)],false,false,false⟩) (fun s=>s=o2) ?_ ?_
 ·rintro s23j1 t H e ⟨v5j1,Zj1⟩ rfl
  try dsimp only at hh
  try simp only[cA,seval,-Int.reduceToNat,hr1,Zj1]
  refine sp aj hh (fun _ hh =>?_) (fun _ hh =>?_)
  ·cases hh
   try simp only[cA,seval,-Int.reduceToNat,hr1,Zj1]
  ·obtain⟨x4,hx4,hh⟩:=ae hh
   have ax4:=bT aq hx4
   simp only[bY]at ax4
   try simp only[cA,seval,-Int.reduceToNat,hr1,Zj1,ax4]
   refine sp bm hh (fun _ hh =>?_) (fun _ hh =>?_)
   ·try simp only[cA,seval,-Int.reduceToNat,hr1,Zj1,ax4]
    refine sp bm hh (fun _ hh =>?_) (fun _ hh =>?_)
    ·cases hh
     try simp only[cA,seval,-Int.reduceToNat,hr1,Zj1,ax4]
    ·cases hh
     try simp only[cA,seval,-Int.reduceToNat,hr1,Zj1,ax4]
   ·cases hh
    try simp only[cA,seval,-Int.reduceToNat,hr1,Zj1,ax4]
 ·clear hh
  have hh:=ho2
  try simp only[cA,seval,-Int.reduceToNat,hr1]
  refine sp aP hh (fun _ hh =>?_) (fun _ hh =>?_)
  ·cases hh
   try simp only[cA,seval,-Int.reduceToNat,hr1]
   rw[al]
   refine⟨_,rfl,?_⟩
   refine⟨0,?_,?_,?_,?_,?_,?_,?_⟩
   all_goals first|rfl|(simp only[cA,seval,-Int.reduceToNat,hr1]<;>rfl)
  ·obtain⟨r8,hr8,hh⟩:=ae hh
   cases hh
   try simp only[cA,seval,-Int.reduceToNat,hr1,hr8]
   rw[al]
   refine⟨_,rfl,?_⟩
   refine⟨0,?_,?_,?_,?_,?_,?_,?_⟩
   all_goals first|rfl|(simp only[cA,seval,-Int.reduceToNat,hr1,hr8]<;>rfl)
theorem rW:bI Tryz.prog 84 kQ:=bI.of (mode := .clean) tok AP mixed Tryz.func84 (by kernel_rfl) ⟨by kernel_rfl,by kernel_rfl⟩ (fun _=>Nat.le_of_ble_eq_true (by kernel_rfl)) (fun x r h=>CE x.1 x.2.1 x.2.2.1 x.2.2.2.1 x.2.2.2.2 r h)
noncomputable def pc:=ez (dX (dU fA) (dX (gg (eI .i64)) (dX (aI .i64) (dX (aI .i64) (dX RW (dX (aI .i64) (dJ (aI .i64)))))))) (fun x:az×(List Int)×Int×Int×ByteArray×Int×Int=>ns x.1 x.2.1 x.2.2.1 x.2.2.2.1 x.2.2.2.2.1 x.2.2.2.2.2.1 x.2.2.2.2.2.2) (fun r:Bool =>.clean (.bool r))
theorem vP (p0_0:(List av)) (p1:(List Int)) (p2:Int) (p3:Int) (p4:ByteArray) (p5:Int) (p6:Int):pc none [.agg [.sl false false p0_0.length (ab aq p0_0)],.sl false false p1.length (ab (eI .i64) p1),.int .i64 p2,.int .i64 p3,.str p4,.int .i64 p5,.int .i64 p6]=(ns (az.mk p0_0) p1 p2 p3 p4 p5 p6).map fun r:Bool=>(.clean (.bool r),none):=aE _ _ _ ((az.mk p0_0),p1,p2,p3,p4,p5,p6)
noncomputable def mi:Env:=(Am.ext (Am.ext (Am.ext aT 84 false kQ) 123 false oq) 150 false pd)
theorem Co:bM Tryz.prog mi:=(((bM.none.add rW false).add Bj false).add CN false)
theorem dW:type_of% (ai @w<|ai @ll<|ai @tL<|ai @vQ<|@mi.eq_1):=⟨@w,@ll,@tL,@vQ,@mi.eq_1⟩
theorem FR (p0:az) (p1:(List Int)) (p2:Int) (p3:Int) (p4:ByteArray) (p5:Int) (p6:Int) (r:Bool) (hh:ns p0 p1 p2 p3 p4 p5 p6=some r):aQ .clean tab mi FU Tryz.f108 none [.agg [.sl false false p0.ak.length (ab aq p0.ak)],.sl false false p1.length (ab (eI .i64) p1),.int .i64 p2,.int .i64 p3,.str p4,.int .i64 p5,.int .i64 p6]=some (.clean (.bool r),none):=by
 refine aw rfl Tryz.ntmps108 Tryz.results108 ?_
 unfold ns at hh
 obtain⟨r1,hr1,hh⟩:=ae hh
 try simp only[dW,seval,-Int.reduceToNat,hr1]
 refine sp aj hh (fun _ hh =>?_) (fun _ hh =>?_)
 ·cases hh
  try simp only[dW,seval,-Int.reduceToNat,hr1]
 ·obtain⟨x3,hx3,hh⟩:=ae hh
  have ax3:=bT (eI .i64) hx3
  simp only[bY]at ax3
  obtain⟨x4,hx4,hh⟩:=ae hh
  have ax4:=bT aq hx4
  simp only[bY]at ax4
  obtain⟨x5,hx5,hh⟩:=ae hh
  have ax5:=bT (eI .i64) hx5
  simp only[bY]at ax5
  try simp only[dW,seval,-Int.reduceToNat,hr1,ax3,ax4,ax5]
  refine b6 (by kernel_rfl) ?_
  try simp only[dW,seval,-Int.reduceToNat,hr1,ax3,ax4,ax5]
  refine sp bm hh (fun _ hh =>?_) (fun _ hh =>?_)
  ·try simp only[dW,seval,-Int.reduceToNat,hr1,ax3,ax4,ax5]
   refine sp bm hh (fun _ hh =>?_) (fun _ hh =>?_)
   ·obtain⟨x8,hx8,hh⟩:=ae hh
    have ax8:=bT aq hx8
    simp only[bY]at ax8
    obtain⟨r9,hr9,hh⟩:=ae hh
    try simp only[dW,seval,-Int.reduceToNat,hr1,ax3,ax4,ax5,ax8,hr9]
    refine sp bm hh (fun _ hh =>?_) (fun _ hh =>?_)
    ·obtain⟨r11,hr11,hh⟩:=ae hh
     cases hh
     try simp only[dW,seval,-Int.reduceToNat,hr1,ax3,ax4,ax5,ax8,hr9,hr11]
    ·cases hh
     try simp only[dW,seval,-Int.reduceToNat,hr1,ax3,ax4,ax5,ax8,hr9]
   ·cases hh
    try simp only[dW,seval,-Int.reduceToNat,hr1,ax3,ax4,ax5]
  ·cases hh
   try simp only[dW,seval,-Int.reduceToNat,hr1,ax3,ax4,ax5]
theorem CM:bI Tryz.prog 108 pc:=bI.of (mode := .clean) tok Co mixed Tryz.func108 (by kernel_rfl) ⟨by kernel_rfl,by kernel_rfl⟩ (fun _=>Nat.le_of_ble_eq_true (by kernel_rfl)) (fun x r h=>FR x.1 x.2.1 x.2.2.1 x.2.2.2.1 x.2.2.2.2.1 x.2.2.2.2.2.1 x.2.2.2.2.2.2 r h)
noncomputable def iI:=ez (dX (dU y9) (dJ (dU bX))) (fun x:jf×bQ=>eZ x.1 x.2) (fun r:Bool =>.clean (.bool r))
theorem lY (p0_0:(List av)) (p0_1:Int) (p0_2:Int) (p0_3:Int) (p1_0:Int) (p1_1:(List Int)) (p1_2:ByteArray) (p1_3:Int) (p1_4:Int):iI none [.agg [.sl false false p0_0.length (ab aq p0_0),.int .i64 p0_1,.int .i64 p0_2,.int .i64 p0_3],.agg [.int .i64 p1_0,.sl false false p1_1.length (ab (eI .i64) p1_1),.str p1_2,.int .i64 p1_3,.int .i64 p1_4]]=(eZ (jf.mk (az.mk p0_0) p0_1 p0_2 p0_3) (bQ.mk p1_0 p1_1 p1_2 p1_3 p1_4)).map fun r:Bool=>(.clean (.bool r),none):=aE _ _ _ ((jf.mk (az.mk p0_0) p0_1 p0_2 p0_3),(bQ.mk p1_0 p1_1 p1_2 p1_3 p1_4))
noncomputable def fC:Env:=(Am.ext aT 108 false pc)
theorem rG:bM Tryz.prog fC:=(bM.none.add CM false)
theorem bL:type_of% (ai @w<|ai @vP<|@fC.eq_1):=⟨@w,@vP,@fC.eq_1⟩
theorem s8 (p0:jf) (p1:bQ) (r:Bool) (hh:eZ p0 p1=some r):aQ .clean tab fC FU Tryz.f73 none [.agg [.sl false false p0.Sh.ak.length (ab aq p0.Sh.ak),.int .i64 p0.wT,.int .i64 p0.sw,.int .i64 p0.su],.agg [.int .i64 p1.eu,.sl false false p1.kz.length (ab (eI .i64) p1.kz),.str p1.ct,.int .i64 p1.aN,.int .i64 p1.aU]]=some (.clean (.bool r),none):=by
 refine aw rfl Tryz.ntmps73 Tryz.results73 ?_
 unfold eZ at hh
 try simp only[bL,seval,-Int.reduceToNat]
 refine sp wc hh (fun _ hh =>?_) (fun _ hh =>?_)
 ·obtain⟨x2,hx2,hh⟩:=ae hh
  have ax2:=bT (eI .i64) hx2
  simp only[bY]at ax2
  try simp only[bL,seval,-Int.reduceToNat,ax2]
  refine sp wc hh (fun _ hh =>?_) (fun _ hh =>?_)
  ·obtain⟨x4,hx4,hh⟩:=ae hh
   have ax4:=bT (eI .i64) hx4
   simp only[bY]at ax4
   try simp only[bL,seval,-Int.reduceToNat,ax2,ax4]
   refine sp wc hh (fun _ hh =>?_) (fun _ hh =>?_)
   ·obtain⟨r6,hr6,hh⟩:=ae hh
    try simp only[bL,seval,-Int.reduceToNat,ax2,ax4,hr6]
    refine b6 (by kernel_rfl) ?_
    cases hh
    try simp only[bL,seval,-Int.reduceToNat,ax2,ax4,hr6]
   ·try simp only[bL,seval,-Int.reduceToNat,ax2,ax4]
    refine b6 (by kernel_rfl) ?_
    cases hh
    try simp only[bL,seval,-Int.reduceToNat,ax2,ax4]
  ·try simp only[bL,seval,-Int.reduceToNat,ax2]
   refine b6 (by kernel_rfl) ?_
   cases hh
   try simp only[bL,seval,-Int.reduceToNat,ax2]
 ·try simp only[bL,seval,-Int.reduceToNat]
  refine b6 (by kernel_rfl) ?_
  cases hh
  try simp only[bL,seval,-Int.reduceToNat]
theorem rQ:bI Tryz.prog 73 iI:=bI.of (mode := .clean) tok rG mixed Tryz.func73 (by kernel_rfl) ⟨by kernel_rfl,by kernel_rfl⟩ (fun _=>Nat.le_of_ble_eq_true (by kernel_rfl)) (fun x r h=>s8 x.1 x.2 r h)
noncomputable def zl:=ez (dJ (aI .i64)) (fun x:Int=>wL x) (fun r:ay =>.clean (.agg [.int .i64 r.ah,.sl false false r.aa.length (ab (eI .i64) r.aa)]))
theorem Jf (p0:Int):zl none [.int .i64 p0]=(wL p0).map fun r:ay=>(.clean (.agg [.int .i64 r.ah,.sl false false r.aa.length (ab (eI .i64) r.aa)]),none):=aE _ _ _ (p0)
noncomputable def vq:Env:=(Am.ext aT 126 false jI)
theorem ND:bM Tryz.prog vq:=(bM.none.add ow false)
theorem fm:type_of% (ai @w<|ai @iz<|@vq.eq_1):=⟨@w,@iz,@vq.eq_1⟩
theorem P9 (p0:Int) (r:ay) (hh:wL p0=some r):aQ .clean tab vq FU Tryz.f109 none [.int .i64 p0]=some (.clean (.agg [.int .i64 r.ah,.sl false false r.aa.length (ab (eI .i64) r.aa)]),none):=by
 refine aw rfl Tryz.ntmps109 Tryz.results109 ?_
 unfold wL at hh
 try simp only[fm,seval,-Int.reduceToNat]
 obtain⟨o1,ho1,hh⟩:=ae hh
 refine lM 0 (fun s t H e=>match s with|(s3j1,s4j1)=>∃v2j1:Nat,t 2=.ptr 2 v2j1 0∧t 3=.int .i64 s3j1∧t 4=.int .u64 s4j1∧H 2=some ⟨v2j1,49,[.int .i64 0,.sl true true 0 []],false,false,false⟩) (fun s=>s=o1) ?_ ?_
 ·rintro⟨s3j1,s4j1⟩ t H e ⟨v2j1,Zj1⟩ rfl
  try dsimp only at hh
  try simp only[fm,seval,-Int.reduceToNat,Zj1]
  obtain⟨o7,ho7,hh⟩:=ae hh
  refine ax (fun s t H e=>match s with|(s4b,l5b)=>∃v2b:Nat,∃v5b:Nat,t 2=.ptr 2 v2b 0∧t 3=.int .i64 s3j1∧t 4=.int .u64 s4b∧t 5=.buf 5 v5b 1 0 (l5b).length∧H 2=some ⟨v2b,49,[.int .i64 0,.sl true true 0 []],false,false,false⟩∧H 5=some ⟨v5b,3,ab (eI .i64) l5b,false,true,false⟩) (fun o x t H e=>match o with|l5bx=>x=.exit 0∧∃v2bx:Nat,∃v5bx:Nat,t 2=.ptr 2 v2bx 0∧t 3=.int .i64 s3j1∧t 5=.buf 5 v5bx 1 0 (l5bx).length∧H 2=some ⟨v2bx,49,[.int .i64 0,.sl true true 0 []],false,false,false⟩∧H 5=some ⟨v5bx,3,ab (eI .i64) l5bx,false,true,false⟩) ho7 ?_ ?_ ?_
  ·refine⟨v2j1,e,?_,?_,?_,?_,?_,?_⟩
   all_goals first|rfl|(simp only[fm,seval,-Int.reduceToNat,Zj1]<;>rfl)
  ·rintro⟨s4b,l5b⟩ t H e ⟨v2b,v5b,Zb⟩ c hh
   simp only[C6]at hh
   try simp only[fm,seval,-Int.reduceToNat,Zb]
   refine sp aj hh (fun _ hh =>?_) (fun _ hh =>?_)
   ·obtain⟨x9,hx9,hh⟩:=ae hh
    obtain⟨q10a,q10b,q10c,q10d⟩:=eo (eI .i64) hx9
    simp only[bY]at q10b
    obtain⟨x11,hx11,hh⟩:=ae hh
    have q12:=p7 hx11
    cases hh
    try simp only[fm,seval,-Int.reduceToNat,Zb,q10a,q10b,q10c,q10d,q12]
    refine jg ?_
    refine⟨v2b,e+1,?_,?_,?_,?_,?_,?_⟩
    all_goals first|rfl|(simp only[fm,seval,-Int.reduceToNat,Zb,q10a,q10b,q10c,q10d,q12]<;>rfl)
   ·cases hh
    try simp only[fm,seval,-Int.reduceToNat,Zb]
    refine kl ?_
    refine⟨rfl,⟨v2b,v5b,?_,?_,?_,?_,?_⟩⟩
    all_goals first|rfl|(simp only[fm,seval,-Int.reduceToNat,Zb]<;>rfl)
  ·rintro x t H e hx
   obtain⟨l5bx,rfl⟩:∃z,z=o7:=⟨_,rfl⟩
   dsimp only at hx hh
   obtain⟨rfl,⟨v2bx,v5bx,Zbx⟩⟩:=hx
   obtain⟨r13,hr13,hh⟩:=ae hh
   cases hh
   try simp only[fm,seval,-Int.reduceToNat,Zbx,hr13]
 ·clear hh
  have hh:=ho1
  try simp only[fm,seval,-Int.reduceToNat]
  refine sp aj hh (fun _ hh =>?_) (fun _ hh =>?_)
  ·cases hh
   try simp only[fm,seval,-Int.reduceToNat]
   rw[al]
   refine⟨_,rfl,?_⟩
   refine⟨0,?_,?_,?_,?_⟩
   all_goals first|rfl|(simp only[fm,seval,-Int.reduceToNat]<;>rfl)
  ·cases hh
   try simp only[fm,seval,-Int.reduceToNat]
   rw[al]
   refine⟨_,rfl,?_⟩
   refine⟨0,?_,?_,?_,?_⟩
   all_goals first|rfl|(simp only[fm,seval,-Int.reduceToNat]<;>rfl)
theorem NZ:bI Tryz.prog 109 zl:=bI.of (mode := .clean) tok ND mixed Tryz.func109 (by kernel_rfl) ⟨by kernel_rfl,by kernel_rfl⟩ (fun _=>Nat.le_of_ble_eq_true (by kernel_rfl)) (fun x r h=>P9 x r h)
noncomputable def ub:=ez (dJ (aI .i64)) (fun x:Int=>rF x) (fun r:ba =>.clean (.agg [.int .i64 r.cH.ah,.sl false false r.cH.aa.length (ab (eI .i64) r.cH.aa),.int .i64 r.cB.ah,.sl false false r.cB.aa.length (ab (eI .i64) r.cB.aa)]))
theorem Bt (p0:Int):ub none [.int .i64 p0]=(rF p0).map fun r:ba=>(.clean (.agg [.int .i64 r.cH.ah,.sl false false r.cH.aa.length (ab (eI .i64) r.cH.aa),.int .i64 r.cB.ah,.sl false false r.cB.aa.length (ab (eI .i64) r.cB.aa)]),none):=aE _ _ _ (p0)
noncomputable def pB:Env:=(Am.ext aT 109 false zl)
theorem HN:bM Tryz.prog pB:=(bM.none.add NZ false)
theorem Lu:type_of% (ai @w<|ai @Jf<|@pB.eq_1):=⟨@w,@Jf,@pB.eq_1⟩
theorem KD (p0:Int) (r:ba) (hh:rF p0=some r):aQ .clean tab pB FU Tryz.f74 none [.int .i64 p0]=some (.clean (.agg [.int .i64 r.cH.ah,.sl false false r.cH.aa.length (ab (eI .i64) r.cH.aa),.int .i64 r.cB.ah,.sl false false r.cB.aa.length (ab (eI .i64) r.cB.aa)]),none):=by
 refine aw rfl Tryz.ntmps74 Tryz.results74 ?_
 unfold rF at hh
 obtain⟨r1,hr1,hh⟩:=ae hh
 obtain⟨r2,hr2,hh⟩:=ae hh
 cases hh
 try simp only[Lu,seval,-Int.reduceToNat,hr1,hr2]
theorem I4:bI Tryz.prog 74 ub:=bI.of (mode := .clean) tok HN mixed Tryz.func74 (by kernel_rfl) ⟨by kernel_rfl,by kernel_rfl⟩ (fun _=>Nat.le_of_ble_eq_true (by kernel_rfl)) (fun x r h=>KD x r h)
noncomputable def uh:=ez (dX (dU mS) (dJ (dU mR))) (fun x:gx×ba=>oS x.1 x.2) (fun r:Bool =>.clean (.bool r))
theorem Bx (p0_0:Int) (p0_1:(List Int)) (p0_2:Int) (p0_3:(List Int)) (p0_4:Int) (p0_5:(List Int)) (p0_6:Int) (p0_7:(List Int)) (p1_0:Int) (p1_1:(List Int)) (p1_2:Int) (p1_3:(List Int)):uh none [.agg [.int .i64 p0_0,.sl false false p0_1.length (ab (eI .i64) p0_1),.int .i64 p0_2,.sl false false p0_3.length (ab (eI .i64) p0_3),.int .i64 p0_4,.sl false false p0_5.length (ab (eI .i64) p0_5),.int .i64 p0_6,.sl false false p0_7.length (ab (eI .i64) p0_7)],.agg [.int .i64 p1_0,.sl false false p1_1.length (ab (eI .i64) p1_1),.int .i64 p1_2,.sl false false p1_3.length (ab (eI .i64) p1_3)]]=(oS (gx.mk (ba.mk (ay.mk p0_0 p0_1) (ay.mk p0_2 p0_3)) (ba.mk (ay.mk p0_4 p0_5) (ay.mk p0_6 p0_7))) (ba.mk (ay.mk p1_0 p1_1) (ay.mk p1_2 p1_3))).map fun r:Bool=>(.clean (.bool r),none):=aE _ _ _ ((gx.mk (ba.mk (ay.mk p0_0 p0_1) (ay.mk p0_2 p0_3)) (ba.mk (ay.mk p0_4 p0_5) (ay.mk p0_6 p0_7))),(ba.mk (ay.mk p1_0 p1_1) (ay.mk p1_2 p1_3)))
noncomputable def pI:Env:=(Am.ext (Am.ext (Am.ext aT 30 false l3) 57 false jK) 58 false jJ)
theorem HU:bM Tryz.prog pI:=(((bM.none.add tF false).add ox false).add qu false)
theorem jm:type_of% (ai @w<|ai @mw<|ai @iA<|ai @j7<|@pI.eq_1):=⟨@w,@mw,@iA,@j7,@pI.eq_1⟩
theorem KM (p0:gx) (p1:ba) (r:Bool) (hh:oS p0 p1=some r):aQ .clean tab pI FU Tryz.f31 none [.agg [.int .i64 p0.bz.cH.ah,.sl false false p0.bz.cH.aa.length (ab (eI .i64) p0.bz.cH.aa),.int .i64 p0.bz.cB.ah,.sl false false p0.bz.cB.aa.length (ab (eI .i64) p0.bz.cB.aa),.int .i64 p0.aY.cH.ah,.sl false false p0.aY.cH.aa.length (ab (eI .i64) p0.aY.cH.aa),.int .i64 p0.aY.cB.ah,.sl false false p0.aY.cB.aa.length (ab (eI .i64) p0.aY.cB.aa)],.agg [.int .i64 p1.cH.ah,.sl false false p1.cH.aa.length (ab (eI .i64) p1.cH.aa),.int .i64 p1.cB.ah,.sl false false p1.cB.aa.length (ab (eI .i64) p1.cB.aa)]]=some (.clean (.bool r),none):=by
 refine aw rfl Tryz.ntmps31 Tryz.results31 ?_
 unfold oS at hh
 obtain⟨r1,hr1,hh⟩:=ae hh
 try simp only[jm,seval,-Int.reduceToNat,hr1]
 refine sp bm hh (fun _ hh =>?_) (fun _ hh =>?_)
 ·obtain⟨r3,hr3,hh⟩:=ae hh
  try simp only[jm,seval,-Int.reduceToNat,hr1,hr3]
  refine sp bm hh (fun _ hh =>?_) (fun _ hh =>?_)
  ·obtain⟨r5,hr5,hh⟩:=ae hh
   try simp only[jm,seval,-Int.reduceToNat,hr1,hr3,hr5]
   refine sp bm hh (fun _ hh =>?_) (fun _ hh =>?_)
   ·obtain⟨r7,hr7,hh⟩:=ae hh
    cases hh
    try simp only[jm,seval,-Int.reduceToNat,hr1,hr3,hr5,hr7]
   ·cases hh
    try simp only[jm,seval,-Int.reduceToNat,hr1,hr3,hr5]
  ·cases hh
   try simp only[jm,seval,-Int.reduceToNat,hr1,hr3]
 ·cases hh
  try simp only[jm,seval,-Int.reduceToNat,hr1]
theorem Ja:bI Tryz.prog 31 uh:=bI.of (mode := .clean) tok HU mixed Tryz.func31 (by kernel_rfl) ⟨by kernel_rfl,by kernel_rfl⟩ (fun _=>Nat.le_of_ble_eq_true (by kernel_rfl)) (fun x r h=>KM x.1 x.2 r h)
noncomputable def fY:=ez (dX (dU a7) (dX (OF (eI .i64)) (dJ (OF mR)))) (fun x:aK×Int×ba=>ec x.1 x.2.1 x.2.2) (fun r:Bool =>.clean (.bool r))
theorem j6 (p0_0:Int) (p0_1:Int) (p0_2:(List Int)) (p0_3:Int) (p0_4:(List Int)) (p0_5:Int) (p0_6:(List Int)) (p0_7:Int) (p0_8:(List Int)) (p1:Int) (p2_0:Int) (p2_1:(List Int)) (p2_2:Int) (p2_3:(List Int)):fY none [.agg [.int .i64 p0_0,.int .i64 p0_1,.sl false false p0_2.length (ab (eI .i64) p0_2),.int .i64 p0_3,.sl false false p0_4.length (ab (eI .i64) p0_4),.int .i64 p0_5,.sl false false p0_6.length (ab (eI .i64) p0_6),.int .i64 p0_7,.sl false false p0_8.length (ab (eI .i64) p0_8)],.ip [.int .i64 p1],.ip [.int .i64 p2_0,.sl false false p2_1.length (ab (eI .i64) p2_1),.int .i64 p2_2,.sl false false p2_3.length (ab (eI .i64) p2_3)]]=(ec (aK.mk p0_0 (gx.mk (ba.mk (ay.mk p0_1 p0_2) (ay.mk p0_3 p0_4)) (ba.mk (ay.mk p0_5 p0_6) (ay.mk p0_7 p0_8)))) p1 (ba.mk (ay.mk p2_0 p2_1) (ay.mk p2_2 p2_3))).map fun r:Bool=>(.clean (.bool r),none):=aE _ _ _ ((aK.mk p0_0 (gx.mk (ba.mk (ay.mk p0_1 p0_2) (ay.mk p0_3 p0_4)) (ba.mk (ay.mk p0_5 p0_6) (ay.mk p0_7 p0_8)))),p1,(ba.mk (ay.mk p2_0 p2_1) (ay.mk p2_2 p2_3)))
noncomputable def eC:Env:=(Am.ext aT 31 false uh)
theorem oI:bM Tryz.prog eC:=(bM.none.add Ja false)
theorem gr:type_of% (ai @w<|ai @Bx<|@eC.eq_1):=⟨@w,@Bx,@eC.eq_1⟩
theorem pL (p0:aK) (p1:Int) (p2:ba) (r:Bool) (hh:ec p0 p1 p2=some r):aQ .clean tab eC FU Tryz.f75 none [.agg [.int .i64 p0.eu,.int .i64 p0.cc.bz.cH.ah,.sl false false p0.cc.bz.cH.aa.length (ab (eI .i64) p0.cc.bz.cH.aa),.int .i64 p0.cc.bz.cB.ah,.sl false false p0.cc.bz.cB.aa.length (ab (eI .i64) p0.cc.bz.cB.aa),.int .i64 p0.cc.aY.cH.ah,.sl false false p0.cc.aY.cH.aa.length (ab (eI .i64) p0.cc.aY.cH.aa),.int .i64 p0.cc.aY.cB.ah,.sl false false p0.cc.aY.cB.aa.length (ab (eI .i64) p0.cc.aY.cB.aa)],.ip [.int .i64 p1],.ip [.int .i64 p2.cH.ah,.sl false false p2.cH.aa.length (ab (eI .i64) p2.cH.aa),.int .i64 p2.cB.ah,.sl false false p2.cB.aa.length (ab (eI .i64) p2.cB.aa)]]=some (.clean (.bool r),none):=by
 refine aw rfl Tryz.ntmps75 Tryz.results75 ?_
 unfold ec at hh
 try simp only[gr,seval,-Int.reduceToNat]
 refine sp bm hh (fun _ hh =>?_) (fun _ hh =>?_)
 ·obtain⟨r2,hr2,hh⟩:=ae hh
  cases hh
  try simp only[gr,seval,-Int.reduceToNat,hr2]
 ·cases hh
  try simp only[gr,seval,-Int.reduceToNat]
theorem oQ:bI Tryz.prog 75 fY:=bI.of (mode := .clean) tok oI mixed Tryz.func75 (by kernel_rfl) ⟨by kernel_rfl,by kernel_rfl⟩ (fun _=>Nat.le_of_ble_eq_true (by kernel_rfl)) (fun x r h=>pL x.1 x.2.1 x.2.2 r h)
noncomputable def cn:=ez (dX (gg bX) (dJ (OE 72 0 (dJ (OF (eI .i64)))))) (fun x:(List bQ)×(Int)=>bo x.1 x.2) (fun r:Int =>.clean (.int .i64 r))
theorem dC (p0:(List bQ)) (p1c0:Int):cn none [.sl false false p0.length (ab bX p0),.clo 72 0 [.ip [.int .i64 p1c0]]]=(bo p0 p1c0).map fun r:Int=>(.clean (.int .i64 r),none):=aE _ _ _ (p0,(p1c0))
noncomputable def bP:Env:=(Am.ext aT 72 false fX)
theorem fJ:bM Tryz.prog bP:=(bM.none.add oP false)
theorem aB:type_of% (ai @w<|ai @j5<|@bP.eq_1):=⟨@w,@j5,@bP.eq_1⟩
theorem gm (p0:(List bQ)) (p1c0:Int) (r:Int) (hh:bo p0 p1c0=some r):aQ .clean tab bP FU Tryz.f71 none [.sl false false p0.length (ab bX p0),.clo 72 0 [.ip [.int .i64 p1c0]]]=some (.clean (.int .i64 r),none):=by
 refine aw rfl Tryz.ntmps71 Tryz.results71 ?_
 unfold bo at hh
 try simp only[aB,seval,-Int.reduceToNat]
 obtain⟨o5,ho5,hh⟩:=ae hh
 refine ax (fun s t H e=>match s with|s8a=>t 0=.sl false false p0.length (ab bX p0)∧t 1=.clo 72 0 [.ip [.int .i64 p1c0]]∧t 7=.int .i64 (p0.length:Int)∧t 8=.int .i64 s8a) (fun o x t H e=>match o with|(.inl _)=>x=.exit 0|(.inr r)=>x=.ret∧fw .clean tab none [.tmp 4] ⟨t,H,e⟩=some (.clean (.int .i64 r),none)) ho5 ?_ ?_ ?_
 ·refine⟨?_,?_,?_,?_⟩
  all_goals first|rfl|(simp only[aB,seval,-Int.reduceToNat]<;>rfl)
 ·rintro s8a t H e Za c hh
  simp only[dw]at hh
  try simp only[aB,seval,-Int.reduceToNat,Za]
  refine sp aj hh (fun _ hh =>?_) (fun _ hh =>?_)
  ·obtain⟨x7,hx7,hh⟩:=ae hh
   have ax7:=bT bX hx7
   simp only[bY]at ax7
   obtain⟨r8,hr8,hh⟩:=ae hh
   try simp only[aB,seval,-Int.reduceToNat,Za,ax7,hr8]
   refine sp aj hh (fun _ hh =>?_) (fun _ hh =>?_)
   ·cases hh
    try simp only[aB,seval,-Int.reduceToNat,Za,ax7,hr8]
    refine wq ⟨rfl,?_⟩
    try simp only[aB,seval,-Int.reduceToNat,Za,ax7,hr8]
   ·cases hh
    try simp only[aB,seval,-Int.reduceToNat,Za,ax7,hr8]
    refine jg ?_
    refine⟨?_,?_,?_,?_⟩
    all_goals first|rfl|(simp only[aB,seval,-Int.reduceToNat,Za,ax7,hr8]<;>rfl)
  ·cases hh
   try simp only[aB,seval,-Int.reduceToNat,Za]
   refine kl ?_
   exact rfl
 ·rintro x t H e hx
  rcases o5 with _|ra
  ·dsimp only at hx hh
   subst hx
   cases hh
   try simp only[aB,seval,-Int.reduceToNat]
  ·dsimp only at hx hh
   obtain⟨rfl,hE⟩:=hx
   cases hh
   try simp only[aZ,aR,bc,cu,cr]
   exact hE
theorem fL:bI Tryz.prog 71 cn:=bI.of (mode := .clean) tok fJ mixed Tryz.func71 (by kernel_rfl) ⟨by kernel_rfl,by kernel_rfl⟩ (fun _=>Nat.le_of_ble_eq_true (by kernel_rfl)) (fun x r h=>gm x.1 x.2 r h)
noncomputable def cL:=ez (dX (gg a7) (dJ (OE 75 0 (dX (OF (eI .i64)) (dJ (OF mR)))))) (fun x:(List aK)×(Int×ba)=>bE x.1 x.2.1 x.2.2) (fun r:Int =>.clean (.int .i64 r))
theorem dS (p0:(List aK)) (p1c0:Int) (p1c1_0:Int) (p1c1_1:(List Int)) (p1c1_2:Int) (p1c1_3:(List Int)):cL none [.sl false false p0.length (ab a7 p0),.clo 75 0 [.ip [.int .i64 p1c0],.ip [.int .i64 p1c1_0,.sl false false p1c1_1.length (ab (eI .i64) p1c1_1),.int .i64 p1c1_2,.sl false false p1c1_3.length (ab (eI .i64) p1c1_3)]]]=(bE p0 p1c0 (ba.mk (ay.mk p1c1_0 p1c1_1) (ay.mk p1c1_2 p1c1_3))).map fun r:Int=>(.clean (.int .i64 r),none):=aE _ _ _ (p0,(p1c0,(ba.mk (ay.mk p1c1_0 p1c1_1) (ay.mk p1c1_2 p1c1_3))))
noncomputable def bW:Env:=(Am.ext aT 75 false fY)
theorem gK:bM Tryz.prog bW:=(bM.none.add oQ false)
theorem aC:type_of% (ai @w<|ai @j6<|@bW.eq_1):=⟨@w,@j6,@bW.eq_1⟩
theorem gQ (p0:(List aK)) (p1c0:Int) (p1c1:ba) (r:Int) (hh:bE p0 p1c0 p1c1=some r):aQ .clean tab bW FU Tryz.f68 none [.sl false false p0.length (ab a7 p0),.clo 75 0 [.ip [.int .i64 p1c0],.ip [.int .i64 p1c1.cH.ah,.sl false false p1c1.cH.aa.length (ab (eI .i64) p1c1.cH.aa),.int .i64 p1c1.cB.ah,.sl false false p1c1.cB.aa.length (ab (eI .i64) p1c1.cB.aa)]]]=some (.clean (.int .i64 r),none):=by
 refine aw rfl Tryz.ntmps68 Tryz.results68 ?_
 unfold bE at hh
 try simp only[aC,seval,-Int.reduceToNat]
 obtain⟨o5,ho5,hh⟩:=ae hh
 refine ax (fun s t H e=>match s with|s8a=>t 0=.sl false false p0.length (ab a7 p0)∧t 1=.clo 75 0 [.ip [.int .i64 p1c0],.ip [.int .i64 p1c1.cH.ah,.sl false false p1c1.cH.aa.length (ab (eI .i64) p1c1.cH.aa),.int .i64 p1c1.cB.ah,.sl false false p1c1.cB.aa.length (ab (eI .i64) p1c1.cB.aa)]]∧t 7=.int .i64 (p0.length:Int)∧t 8=.int .i64 s8a) (fun o x t H e=>match o with|(.inl _)=>x=.exit 0|(.inr r)=>x=.ret∧fw .clean tab none [.tmp 4] ⟨t,H,e⟩=some (.clean (.int .i64 r),none)) ho5 ?_ ?_ ?_
 ·refine⟨?_,?_,?_,?_⟩
  all_goals first|rfl|(simp only[aC,seval,-Int.reduceToNat]<;>rfl)
 ·rintro s8a t H e Za c hh
  simp only[dQ]at hh
  try simp only[aC,seval,-Int.reduceToNat,Za]
  refine sp aj hh (fun _ hh =>?_) (fun _ hh =>?_)
  ·obtain⟨x7,hx7,hh⟩:=ae hh
   have ax7:=bT a7 hx7
   simp only[bY]at ax7
   obtain⟨r8,hr8,hh⟩:=ae hh
   try simp only[aC,seval,-Int.reduceToNat,Za,ax7,hr8]
   refine sp aj hh (fun _ hh =>?_) (fun _ hh =>?_)
   ·cases hh
    try simp only[aC,seval,-Int.reduceToNat,Za,ax7,hr8]
    refine wq ⟨rfl,?_⟩
    try simp only[aC,seval,-Int.reduceToNat,Za,ax7,hr8]
   ·cases hh
    try simp only[aC,seval,-Int.reduceToNat,Za,ax7,hr8]
    refine jg ?_
    refine⟨?_,?_,?_,?_⟩
    all_goals first|rfl|(simp only[aC,seval,-Int.reduceToNat,Za,ax7,hr8]<;>rfl)
  ·cases hh
   try simp only[aC,seval,-Int.reduceToNat,Za]
   refine kl ?_
   exact rfl
 ·rintro x t H e hx
  rcases o5 with _|ra
  ·dsimp only at hx hh
   subst hx
   cases hh
   try simp only[aC,seval,-Int.reduceToNat]
  ·dsimp only at hx hh
   obtain⟨rfl,hE⟩:=hx
   cases hh
   try simp only[aZ,aR,bc,cu,cr]
   exact hE
theorem gL:bI Tryz.prog 68 cL:=bI.of (mode := .clean) tok gK mixed Tryz.func68 (by kernel_rfl) ⟨by kernel_rfl,by kernel_rfl⟩ (fun _=>Nat.le_of_ble_eq_true (by kernel_rfl)) (fun x r h=>gQ x.1 x.2.1 x.2.2 r h)
noncomputable def cm:=ez (dX (gg a7) (dJ (OE 75 0 (dX (OF (eI .i64)) (dJ (OF mR)))))) (fun x:(List aK)×(Int×ba)=>bn x.1 x.2.1 x.2.2) (fun r:Bool =>.clean (.bool r))
theorem dB (p0:(List aK)) (p1c0:Int) (p1c1_0:Int) (p1c1_1:(List Int)) (p1c1_2:Int) (p1c1_3:(List Int)):cm none [.sl false false p0.length (ab a7 p0),.clo 75 0 [.ip [.int .i64 p1c0],.ip [.int .i64 p1c1_0,.sl false false p1c1_1.length (ab (eI .i64) p1c1_1),.int .i64 p1c1_2,.sl false false p1c1_3.length (ab (eI .i64) p1c1_3)]]]=(bn p0 p1c0 (ba.mk (ay.mk p1c1_0 p1c1_1) (ay.mk p1c1_2 p1c1_3))).map fun r:Bool=>(.clean (.bool r),none):=aE _ _ _ (p0,(p1c0,(ba.mk (ay.mk p1c1_0 p1c1_1) (ay.mk p1c1_2 p1c1_3))))
noncomputable def bN:Env:=(Am.ext aT 68 false cL)
theorem fI:bM Tryz.prog bN:=(bM.none.add gL false)
theorem gu:type_of% (ai @w<|ai @dS<|@bN.eq_1):=⟨@w,@dS,@bN.eq_1⟩
theorem gj (p0:(List aK)) (p1c0:Int) (p1c1:ba) (r:Bool) (hh:bn p0 p1c0 p1c1=some r):aQ .clean tab bN FU Tryz.f40 none [.sl false false p0.length (ab a7 p0),.clo 75 0 [.ip [.int .i64 p1c0],.ip [.int .i64 p1c1.cH.ah,.sl false false p1c1.cH.aa.length (ab (eI .i64) p1c1.cH.aa),.int .i64 p1c1.cB.ah,.sl false false p1c1.cB.aa.length (ab (eI .i64) p1c1.cB.aa)]]]=some (.clean (.bool r),none):=by
 refine aw rfl Tryz.ntmps40 Tryz.results40 ?_
 unfold bn at hh
 obtain⟨r1,hr1,hh⟩:=ae hh
 cases hh
 try simp only[gu,seval,-Int.reduceToNat,hr1]
theorem fK:bI Tryz.prog 40 cm:=bI.of (mode := .clean) tok fI mixed Tryz.func40 (by kernel_rfl) ⟨by kernel_rfl,by kernel_rfl⟩ (fun _=>Nat.le_of_ble_eq_true (by kernel_rfl)) (fun x r h=>gj x.1 x.2.1 x.2.2 r h)
noncomputable def gR:=ez (dX (dU y9) (dX (aI .i64) (dX (gg bX) (dJ (gg a7))))) (fun x:jf×Int×(List bQ)×(List aK)=>eO x.1 x.2.1 x.2.2.1 x.2.2.2) (fun r:Int =>.clean (.int .i64 r))
theorem lD (p0_0:(List av)) (p0_1:Int) (p0_2:Int) (p0_3:Int) (p1:Int) (p2:(List bQ)) (p3:(List aK)):gR none [.agg [.sl false false p0_0.length (ab aq p0_0),.int .i64 p0_1,.int .i64 p0_2,.int .i64 p0_3],.int .i64 p1,.sl false false p2.length (ab bX p2),.sl false false p3.length (ab a7 p3)]=(eO (jf.mk (az.mk p0_0) p0_1 p0_2 p0_3) p1 p2 p3).map fun r:Int=>(.clean (.int .i64 r),none):=aE _ _ _ ((jf.mk (az.mk p0_0) p0_1 p0_2 p0_3),p1,p2,p3)
noncomputable def fe:Env:=(Am.ext (Am.ext (Am.ext (Am.ext aT 40 false cm) 71 false cn) 73 false iI) 74 false ub)
theorem qJ:bM Tryz.prog fe:=((((bM.none.add fK false).add fL false).add rQ false).add I4 false)
theorem ck:type_of% (ai @w<|ai @dB<|ai @dC<|ai @lY<|ai @Bt<|@fe.eq_1):=⟨@w,@dB,@dC,@lY,@Bt,@fe.eq_1⟩
theorem rM (p0:jf) (p1:Int) (p2:(List bQ)) (p3:(List aK)) (r:Int) (hh:eO p0 p1 p2 p3=some r):aQ .clean tab fe FU Tryz.f43 none [.agg [.sl false false p0.Sh.ak.length (ab aq p0.Sh.ak),.int .i64 p0.wT,.int .i64 p0.sw,.int .i64 p0.su],.int .i64 p1,.sl false false p2.length (ab bX p2),.sl false false p3.length (ab a7 p3)]=some (.clean (.int .i64 r),none):=by
 refine aw rfl Tryz.ntmps43 Tryz.results43 ?_
 unfold eO at hh
 obtain⟨r1,hr1,hh⟩:=ae hh
 try simp only[ck,seval,-Int.reduceToNat,hr1]
 refine sp aj hh (fun _ hh =>?_) (fun _ hh =>?_)
 ·cases hh
  try simp only[ck,seval,-Int.reduceToNat,hr1]
 ·obtain⟨x3,hx3,hh⟩:=ae hh
  have ax3:=bT bX hx3
  simp only[bY]at ax3
  obtain⟨r4,hr4,hh⟩:=ae hh
  try simp only[ck,seval,-Int.reduceToNat,hr1,ax3,hr4]
  refine b6 (by kernel_rfl) ?_
  try simp only[ck,seval,-Int.reduceToNat,hr1,ax3,hr4]
  refine sp aj hh (fun _ hh =>?_) (fun _ hh =>?_)
  ·cases hh
   try simp only[ck,seval,-Int.reduceToNat,hr1,ax3,hr4]
  ·have ax3:=bT bX hx3
   simp only[bY]at ax3
   obtain⟨r6,hr6,hh⟩:=ae hh
   obtain⟨r7,hr7,hh⟩:=ae hh
   try simp only[ck,seval,-Int.reduceToNat,hr1,ax3,hr4,ax3,hr6,hr7]
   refine sp aj hh (fun _ hh =>?_) (fun _ hh =>?_)
   ·cases hh
    try simp only[ck,seval,-Int.reduceToNat,hr1,ax3,hr4,ax3,hr6,hr7]
   ·cases hh
    try simp only[ck,seval,-Int.reduceToNat,hr1,ax3,hr4,ax3,hr6,hr7]
theorem qL:bI Tryz.prog 43 gR:=bI.of (mode := .clean) tok qJ mixed Tryz.func43 (by kernel_rfl) ⟨by kernel_rfl,by kernel_rfl⟩ (fun _=>Nat.le_of_ble_eq_true (by kernel_rfl)) (fun x r h=>rM x.1 x.2.1 x.2.2.1 x.2.2.2 r h)
noncomputable def dy:=ez (dX (gg a7) (dJ (Wj 41))) (fun x:(List aK)×Unit=>cd x.1) (fun r:Int =>.clean (.int .i64 r))
theorem ff (p0:(List aK)):dy none [.sl false false p0.length (ab a7 p0),.fn 41]=(cd p0).map fun r:Int=>(.clean (.int .i64 r),none):=aE _ _ _ (p0,())
noncomputable def cI:Env:=(Am.ext aT 41 false lP)
theorem jE:bM Tryz.prog cI:=(bM.none.add xc false)
theorem aL:type_of% (ai @w<|ai @qw<|@cI.eq_1):=⟨@w,@qw,@cI.eq_1⟩
theorem jY (p0:(List aK)) (r:Int) (hh:cd p0=some r):aQ .clean tab cI FU Tryz.f68 none [.sl false false p0.length (ab a7 p0),.fn 41]=some (.clean (.int .i64 r),none):=by
 refine aw rfl Tryz.ntmps68 Tryz.results68 ?_
 unfold cd at hh
 try simp only[aL,seval,-Int.reduceToNat]
 obtain⟨o5,ho5,hh⟩:=ae hh
 refine ax (fun s t H e=>match s with|s8a=>t 0=.sl false false p0.length (ab a7 p0)∧t 1=.fn 41∧t 7=.int .i64 (p0.length:Int)∧t 8=.int .i64 s8a) (fun o x t H e=>match o with|(.inl _)=>x=.exit 0|(.inr r)=>x=.ret∧fw .clean tab none [.tmp 4] ⟨t,H,e⟩=some (.clean (.int .i64 r),none)) ho5 ?_ ?_ ?_
 ·refine⟨?_,?_,?_,?_⟩
  all_goals first|rfl|(simp only[aL,seval,-Int.reduceToNat]<;>rfl)
 ·rintro s8a t H e Za c hh
  simp only[eV]at hh
  try simp only[aL,seval,-Int.reduceToNat,Za]
  refine sp aj hh (fun _ hh =>?_) (fun _ hh =>?_)
  ·obtain⟨x7,hx7,hh⟩:=ae hh
   have ax7:=bT a7 hx7
   simp only[bY]at ax7
   obtain⟨r8,hr8,hh⟩:=ae hh
   try simp only[aL,seval,-Int.reduceToNat,Za,ax7,hr8]
   refine sp aj hh (fun _ hh =>?_) (fun _ hh =>?_)
   ·cases hh
    try simp only[aL,seval,-Int.reduceToNat,Za,ax7,hr8]
    refine wq ⟨rfl,?_⟩
    try simp only[aL,seval,-Int.reduceToNat,Za,ax7,hr8]
   ·cases hh
    try simp only[aL,seval,-Int.reduceToNat,Za,ax7,hr8]
    refine jg ?_
    refine⟨?_,?_,?_,?_⟩
    all_goals first|rfl|(simp only[aL,seval,-Int.reduceToNat,Za,ax7,hr8]<;>rfl)
  ·cases hh
   try simp only[aL,seval,-Int.reduceToNat,Za]
   refine kl ?_
   exact rfl
 ·rintro x t H e hx
  rcases o5 with _|ra
  ·dsimp only at hx hh
   subst hx
   cases hh
   try simp only[aL,seval,-Int.reduceToNat]
  ·dsimp only at hx hh
   obtain⟨rfl,hE⟩:=hx
   cases hh
   try simp only[aZ,aR,bc,cu,cr]
   exact hE
theorem jG:bI Tryz.prog 68 dy:=bI.of (mode := .clean) tok jE mixed Tryz.func68 (by kernel_rfl) ⟨by kernel_rfl,by kernel_rfl⟩ (fun _=>Nat.le_of_ble_eq_true (by kernel_rfl)) (fun x r h=>jY x.1 r h)
noncomputable def db:=ez (dX (gg a7) (dJ (Wj 41))) (fun x:(List aK)×Unit=>aH x.1) (fun r:Bool =>.clean (.bool r))
theorem eH (p0:(List aK)):db none [.sl false false p0.length (ab a7 p0),.fn 41]=(aH p0).map fun r:Bool=>(.clean (.bool r),none):=aE _ _ _ (p0,())
noncomputable def cg:Env:=(Am.ext aT 68 false dy)
theorem iJ:bM Tryz.prog cg:=(bM.none.add jG false)
theorem iW:type_of% (ai @w<|ai @ff<|@cg.eq_1):=⟨@w,@ff,@cg.eq_1⟩
theorem iO (p0:(List aK)) (r:Bool) (hh:aH p0=some r):aQ .clean tab cg FU Tryz.f40 none [.sl false false p0.length (ab a7 p0),.fn 41]=some (.clean (.bool r),none):=by
 refine aw rfl Tryz.ntmps40 Tryz.results40 ?_
 unfold aH at hh
 obtain⟨r1,hr1,hh⟩:=ae hh
 cases hh
 try simp only[iW,seval,-Int.reduceToNat,hr1]
theorem iK:bI Tryz.prog 40 db:=bI.of (mode := .clean) tok iJ mixed Tryz.func40 (by kernel_rfl) ⟨by kernel_rfl,by kernel_rfl⟩ (fun _=>Nat.le_of_ble_eq_true (by kernel_rfl)) (fun x r h=>iO x.1 r h)
noncomputable def kL:=ez (dX (dU fA) (dX (aI .i64) (dX (aI .i64) (dX (aI .i64) (dX (gg (eI .i64)) (dX (gg bX) (dJ (gg a7)))))))) (fun x:az×Int×Int×Int×(List Int)×(List bQ)×(List aK)=>fM x.1 x.2.1 x.2.2.1 x.2.2.2.1 x.2.2.2.2.1 x.2.2.2.2.2.1 x.2.2.2.2.2.2) (fun r:(List bt)×Int =>.clean (.tup [.sl false false r.1.length (ab bR r.1),.int .i64 r.2]))
theorem gE (p0_0:(List av)) (p1:Int) (p2:Int) (p3:Int) (p4:(List Int)) (p5:(List bQ)) (p6:(List aK)):kL none [.agg [.sl false false p0_0.length (ab aq p0_0)],.int .i64 p1,.int .i64 p2,.int .i64 p3,.sl false false p4.length (ab (eI .i64) p4),.sl false false p5.length (ab bX p5),.sl false false p6.length (ab a7 p6)]=(fM (az.mk p0_0) p1 p2 p3 p4 p5 p6).map fun r:(List bt)×Int=>(.clean (.tup [.sl false false r.1.length (ab bR r.1),.int .i64 r.2]),none):=aE _ _ _ ((az.mk p0_0),p1,p2,p3,p4,p5,p6)
noncomputable def kV:Env:=(Am.ext (Am.ext (Am.ext (Am.ext aT 39 false fp) 40 false db) 42 false kM) 43 false gR)
theorem AJ:bM Tryz.prog kV:=((((bM.none.add gZ false).add iK false).add rR false).add qL false)
theorem aV:type_of% (ai @w<|ai @df<|ai @eH<|ai @lh<|ai @lD<|@kV.eq_1):=⟨@w,@df,@eH,@lh,@lD,@kV.eq_1⟩
theorem Cv (p0:az) (p1:Int) (p2:Int) (p3:Int) (p4:(List Int)) (p5:(List bQ)) (p6:(List aK)) (r:(List bt)×Int) (hh:fM p0 p1 p2 p3 p4 p5 p6=some r):aQ .clean tab kV FU Tryz.f13 none [.agg [.sl false false p0.ak.length (ab aq p0.ak)],.int .i64 p1,.int .i64 p2,.int .i64 p3,.sl false false p4.length (ab (eI .i64) p4),.sl false false p5.length (ab bX p5),.sl false false p6.length (ab a7 p6)]=some (.clean (.tup [.sl false false r.1.length (ab bR r.1),.int .i64 r.2]),none):=by
 refine aw rfl Tryz.ntmps13 Tryz.results13 ?_
 unfold fM at hh
 obtain⟨r1,hr1,hh⟩:=ae hh
 try simp only[aV,seval,-Int.reduceToNat,hr1]
 obtain⟨o2,ho2,hh⟩:=ae hh
 refine bG 0 (fun s t H e=>match s with|s21j1=>∃v7j1:Nat,t 1=.int .i64 p1∧t 2=.int .i64 p2∧t 3=.int .i64 p3∧t 4=.sl false false p4.length (ab (eI .i64) p4)∧t 5=.sl false false p5.length (ab bX p5)∧t 6=.sl false false p6.length (ab a7 p6)∧t 7=.ptr 7 v7j1 0∧t 21=.bool s21j1∧H 7=some ⟨v7j1,24,[.sl false false p0.ak.length (ab aq p0.ak)],false,false,false⟩) (fun s=>s=o2) ?_ ?_
 ·rintro s21j1 t H e ⟨v7j1,Zj1⟩ rfl
  try dsimp only at hh
  try simp only[aV,seval,-Int.reduceToNat,hr1,Zj1]
  refine sp aj hh (fun _ hh =>?_) (fun _ hh =>?_)
  ·cases hh
   try simp only[aV,seval,-Int.reduceToNat,hr1,Zj1]
  ·obtain⟨r4,hr4,hh⟩:=ae hh
   try simp only[aV,seval,-Int.reduceToNat,hr1,Zj1,hr4]
   refine sp aj hh (fun _ hh =>?_) (fun _ hh =>?_)
   ·cases hh
    try simp only[aV,seval,-Int.reduceToNat,hr1,Zj1,hr4]
   ·obtain⟨r6,hr6,hh⟩:=ae hh
    try simp only[aV,seval,-Int.reduceToNat,hr1,Zj1,hr4,hr6]
    refine sp aj hh (fun _ hh =>?_) (fun _ hh =>?_)
    ·cases hh
     try simp only[aV,seval,-Int.reduceToNat,hr1,Zj1,hr4,hr6]
    ·try simp only[aV,seval,-Int.reduceToNat,hr1,Zj1,hr4,hr6]
     obtain⟨o14,ho14,hh⟩:=ae hh
     refine ax (fun s t H e=>match s with|(s49b,l17b)=>∃v16b:Nat,∃v17b:Nat,t 5=.sl false false p5.length (ab bX p5)∧t 6=.sl false false p6.length (ab a7 p6)∧t 16=.ptr 16 v16b 0∧t 17=.buf 17 v17b 2 0 (l17b).length∧t 47=.sl false false p4.length (ab (eI .i64) p4)∧t 48=.int .i64 (p4.length:Int)∧t 49=.int .i64 s49b∧H 16=some ⟨v16b,92,[.sl false false p0.ak.length (ab aq p0.ak),.int .i64 p1,.int .i64 p2,.int .i64 p3],false,false,false⟩∧H 17=some ⟨v17b,74,ab bR l17b,false,true,false⟩) (fun o x t H e=>match o with|l17bx=>x=.exit 1∧∃v17bx:Nat,t 17=.buf 17 v17bx 2 0 (l17bx).length∧H 17=some ⟨v17bx,74,ab bR l17bx,false,true,false⟩) ho14 ?_ ?_ ?_
     ·refine⟨e+1+1,e+1+1+1,?_,?_,?_,?_,?_,?_,?_,?_,?_⟩
      all_goals first|rfl|(simp only[aV,seval,-Int.reduceToNat,hr1,Zj1,hr4,hr6]<;>rfl)
     ·rintro⟨s49b,l17b⟩ t H e ⟨v16b,v17b,Zb⟩ c hh
      simp only[jQ]at hh
      try simp only[aV,seval,-Int.reduceToNat,hr1,hr4,hr6,Zb]
      refine sp aj hh (fun _ hh =>?_) (fun _ hh =>?_)
      ·obtain⟨x16,hx16,hh⟩:=ae hh
       have ax16:=bT (eI .i64) hx16
       simp only[bY]at ax16
       obtain⟨r17,hr17,hh⟩:=ae hh
       try simp only[aV,seval,-Int.reduceToNat,hr1,hr4,hr6,Zb,ax16,hr17]
       refine sp aj hh (fun _ hh =>?_) (fun _ hh =>?_)
       ·obtain⟨x19,hx19,hh⟩:=ae hh
        obtain⟨q20a,q20b,q20c,q20d⟩:=eo bR hx19
        simp only[bY]at q20b
        cases hh
        try simp only[aV,seval,-Int.reduceToNat,hr1,hr4,hr6,Zb,ax16,hr17,q20a,q20b,q20c,q20d]
        refine jg ?_
        refine⟨v16b,e+1+1+1+1,?_,?_,?_,?_,?_,?_,?_,?_,?_⟩
        all_goals first|rfl|(simp only[aV,seval,-Int.reduceToNat,hr1,hr4,hr6,Zb,ax16,hr17,q20a,q20b,q20c,q20d]<;>rfl)
       ·cases hh
        try simp only[aV,seval,-Int.reduceToNat,hr1,hr4,hr6,Zb,ax16,hr17]
        refine jg ?_
        refine⟨v16b,v17b,?_,?_,?_,?_,?_,?_,?_,?_,?_⟩
        all_goals first|rfl|(simp only[aV,seval,-Int.reduceToNat,hr1,hr4,hr6,Zb,ax16,hr17]<;>rfl)
      ·cases hh
       try simp only[aV,seval,-Int.reduceToNat,hr1,hr4,hr6,Zb]
       refine kl ?_
       refine⟨rfl,⟨v17b,?_,?_⟩⟩
       all_goals first|rfl|(simp only[aV,seval,-Int.reduceToNat,hr1,hr4,hr6,Zb]<;>rfl)
     ·rintro x t H e hx
      obtain⟨l17bx,rfl⟩:∃z,z=o14:=⟨_,rfl⟩
      dsimp only at hx hh
      obtain⟨rfl,⟨v17bx,Zbx⟩⟩:=hx
      cases hh
      try simp only[aV,seval,-Int.reduceToNat,hr1,hr4,hr6,Zbx]
 ·clear hh
  have hh:=ho2
  try simp only[aV,seval,-Int.reduceToNat,hr1]
  refine sp aP hh (fun _ hh =>?_) (fun _ hh =>?_)
  ·cases hh
   try simp only[aV,seval,-Int.reduceToNat,hr1]
   rw[al]
   refine⟨_,rfl,?_⟩
   refine⟨0,?_,?_,?_,?_,?_,?_,?_,?_,?_⟩
   all_goals first|rfl|(simp only[aV,seval,-Int.reduceToNat,hr1]<;>rfl)
  ·try simp only[aV,seval,-Int.reduceToNat,hr1]
   refine sp aP hh (fun _ hh =>?_) (fun _ hh =>?_)
   ·cases hh
    try simp only[aV,seval,-Int.reduceToNat,hr1]
    rw[al]
    refine⟨_,rfl,?_⟩
    refine⟨0,?_,?_,?_,?_,?_,?_,?_,?_,?_⟩
    all_goals first|rfl|(simp only[aV,seval,-Int.reduceToNat,hr1]<;>rfl)
   ·cases hh
    try simp only[aV,seval,-Int.reduceToNat,hr1]
    rw[al]
    refine⟨_,rfl,?_⟩
    refine⟨0,?_,?_,?_,?_,?_,?_,?_,?_,?_⟩
    all_goals first|rfl|(simp only[aV,seval,-Int.reduceToNat,hr1]<;>rfl)
theorem rP:bI Tryz.prog 13 kL:=bI.of (mode := .clean) tok AJ mixed Tryz.func13 (by kernel_rfl) ⟨by kernel_rfl,by kernel_rfl⟩ (fun _=>Nat.le_of_ble_eq_true (by kernel_rfl)) (fun x r h=>Cv x.1 x.2.1 x.2.2.1 x.2.2.2.1 x.2.2.2.2.1 x.2.2.2.2.2.1 x.2.2.2.2.2.2 r h)
noncomputable def ug:=ez (dX (gg bR) (dJ (gg bR))) (fun x:(List bt)×(List bt)=>np x.1 x.2) (fun r:Bool =>.clean (.bool r))
theorem Bw (p0:(List bt)) (p1:(List bt)):ug none [.sl false false p0.length (ab bR p0),.sl false false p1.length (ab bR p1)]=(np p0 p1).map fun r:Bool=>(.clean (.bool r),none):=aE _ _ _ (p0,p1)
theorem KL (p0:(List bt)) (p1:(List bt)) (r:Bool) (hh:np p0 p1=some r):aQ .clean tab aT FU Tryz.f17 none [.sl false false p0.length (ab bR p0),.sl false false p1.length (ab bR p1)]=some (.clean (.bool r),none):=by
 refine aw rfl Tryz.ntmps17 Tryz.results17 ?_
 unfold np at hh
 try simp only[w,seval,-Int.reduceToNat]
 refine sp aj hh (fun _ hh =>?_) (fun _ hh =>?_)
 ·cases hh
  try simp only[w,seval,-Int.reduceToNat]
 ·try simp only[w,seval,-Int.reduceToNat]
  obtain⟨o6,ho6,hh⟩:=ae hh
  refine ax (fun s t H e=>match s with|s5a=>t 0=.sl false false p0.length (ab bR p0)∧t 1=.sl false false p1.length (ab bR p1)∧t 5=.int .i64 s5a) (fun o x t H e=>match o with|(.inl _)=>x=.exit 0|(.inr r)=>x=.ret∧fw .clean tab none [.tmp 4] ⟨t,H,e⟩=some (.clean (.bool r),none)) ho6 ?_ ?_ ?_
  ·refine⟨?_,?_,?_⟩
   all_goals first|rfl|(simp only[w,seval,-Int.reduceToNat]<;>rfl)
  ·rintro s5a t H e Za c hh
   simp only[lJ]at hh
   try simp only[w,seval,-Int.reduceToNat,Za]
   refine sp aj hh (fun _ hh =>?_) (fun _ hh =>?_)
   ·obtain⟨x8,hx8,hh⟩:=ae hh
    have ax8:=bT bR hx8
    simp only[bY]at ax8
    obtain⟨x9,hx9,hh⟩:=ae hh
    have ax9:=bT bR hx9
    simp only[bY]at ax9
    try simp only[w,seval,-Int.reduceToNat,Za,ax8,ax9]
    refine b6 (by kernel_rfl) ?_
    try simp only[w,seval,-Int.reduceToNat,Za,ax8,ax9]
    refine sp aj hh (fun _ hh =>?_) (fun _ hh =>?_)
    ·cases hh
     try simp only[w,seval,-Int.reduceToNat,Za,ax8,ax9]
     refine wq ⟨rfl,?_⟩
     try simp only[w,seval,-Int.reduceToNat,Za,ax8,ax9]
    ·cases hh
     try simp only[w,seval,-Int.reduceToNat,Za,ax8,ax9]
     refine jg ?_
     refine⟨?_,?_,?_⟩
     all_goals first|rfl|(simp only[w,seval,-Int.reduceToNat,Za,ax8,ax9]<;>rfl)
   ·cases hh
    try simp only[w,seval,-Int.reduceToNat,Za]
    refine kl ?_
    exact rfl
  ·rintro x t H e hx
   rcases o6 with _|ra
   ·dsimp only at hx hh
    subst hx
    cases hh
    try simp only[w,seval,-Int.reduceToNat]
   ·dsimp only at hx hh
    obtain⟨rfl,hE⟩:=hx
    cases hh
    try simp only[aZ,aR,bc,cu,cr]
    exact hE
theorem I9:bI Tryz.prog 17 ug:=bI.of (mode := .clean) tok bM.none mixed Tryz.func17 (by kernel_rfl) ⟨by kernel_rfl,by kernel_rfl⟩ (fun _=>Nat.le_of_ble_eq_true (by kernel_rfl)) (fun x r h=>KL x.1 x.2 r h)
noncomputable def ud:=ez (dX (dU fA) (dX (gg (eI .i64)) (dX (aI .i64) (dX (gg a7) (dJ (gg bR)))))) (fun x:az×(List Int)×Int×(List aK)×(List bt)=>iN x.1 x.2.1 x.2.2.1 x.2.2.2.1 x.2.2.2.2) (fun r:Bool =>.clean (.bool r))
theorem kE (p0_0:(List av)) (p1:(List Int)) (p2:Int) (p3:(List aK)) (p4:(List bt)):ud none [.agg [.sl false false p0_0.length (ab aq p0_0)],.sl false false p1.length (ab (eI .i64) p1),.int .i64 p2,.sl false false p3.length (ab a7 p3),.sl false false p4.length (ab bR p4)]=(iN (az.mk p0_0) p1 p2 p3 p4).map fun r:Bool=>(.clean (.bool r),none):=aE _ _ _ ((az.mk p0_0),p1,p2,p3,p4)
noncomputable def pD:Env:=(Am.ext (Am.ext aT 13 false kL) 17 false ug)
theorem HP:bM Tryz.prog pD:=((bM.none.add rP false).add I9 false)
theorem uI:type_of% (ai @w<|ai @gE<|ai @Bw<|@pD.eq_1):=⟨@w,@gE,@Bw,@pD.eq_1⟩
theorem KF (p0:az) (p1:(List Int)) (p2:Int) (p3:(List aK)) (p4:(List bt)) (r:Bool) (hh:iN p0 p1 p2 p3 p4=some r):aQ .clean tab pD FU Tryz.f38 none [.agg [.sl false false p0.ak.length (ab aq p0.ak)],.sl false false p1.length (ab (eI .i64) p1),.int .i64 p2,.sl false false p3.length (ab a7 p3),.sl false false p4.length (ab bR p4)]=some (.clean (.bool r),none):=by
 refine aw rfl Tryz.ntmps38 Tryz.results38 ?_
 unfold iN at hh
 have i1:=gE p0.ak 4 60 24 p1 ([(bQ.mk 1 ([4,3,1]) (ByteArray.mk #[98]) p2 8)]) p3
 simp only[aF,bY,List.length_cons,List.length_nil,Nat.zero_add,Nat.reduceAdd,List.length_set]at i1
 obtain⟨r2,hr2,hh⟩:=ae hh
 try simp only[uI,seval,-Int.reduceToNat,i1,hr2]
 refine sp bm hh (fun _ hh =>?_) (fun _ hh =>?_)
 ·obtain⟨r4,hr4,hh⟩:=ae hh
  cases hh
  try simp only[uI,seval,-Int.reduceToNat,i1,hr2,hr4]
 ·cases hh
  try simp only[uI,seval,-Int.reduceToNat,i1,hr2]
theorem I6:bI Tryz.prog 38 ud:=bI.of (mode := .clean) tok HP mixed Tryz.func38 (by kernel_rfl) ⟨by kernel_rfl,by kernel_rfl⟩ (fun _=>Nat.le_of_ble_eq_true (by kernel_rfl)) (fun x r h=>KF x.1 x.2.1 x.2.2.1 x.2.2.2.1 x.2.2.2.2 r h)
noncomputable def qX:=ez (dJ (gg (eI .i64))) (fun x:(List Int)=>sY x) (fun r:ByteArray =>.clean (.str r))
theorem yk (p0:(List Int)):qX none [.sl false false p0.length (ab (eI .i64) p0)]=(sY p0).map fun r:ByteArray=>(.clean (.str r),none):=aE _ _ _ p0
theorem Gb:bI Tryz.prog 53 qX:=Ss
noncomputable def ln:=ez (dJ (gg (eI .i64))) (fun x:(List Int)=>gI x) (fun r:ByteArray =>.clean (.str r))
theorem ib (p0:(List Int)):ln none [.sl false false p0.length (ab (eI .i64) p0)]=(gI p0).map fun r:ByteArray=>(.clean (.str r),none):=aE _ _ _ (p0)
noncomputable def nR:Env:=(Am.ext aT 53 false qX)
theorem FD:bM Tryz.prog nR:=(bM.none.add Gb false)
theorem JW:type_of% (ai @w<|ai @yk<|@nR.eq_1):=⟨@w,@yk,@nR.eq_1⟩
theorem IH (p0:(List Int)) (r:ByteArray) (hh:gI p0=some r):aQ .clean tab nR FU Tryz.f21 none [.sl false false p0.length (ab (eI .i64) p0)]=some (.clean (.str r),none):=by
 refine aw rfl Tryz.ntmps21 Tryz.results21 ?_
 unfold gI at hh
 obtain⟨r1,hr1,hh⟩:=ae hh
 cases hh
 try simp only[JW,seval,-Int.reduceToNat,hr1]
theorem pP:bI Tryz.prog 21 ln:=bI.of (mode := .clean) tok FD mixed Tryz.func21 (by kernel_rfl) ⟨by kernel_rfl,by kernel_rfl⟩ (fun _=>Nat.le_of_ble_eq_true (by kernel_rfl)) (fun x r h=>IH x r h)
theorem CC (p0 r:(List av)) (hh:jA p0=some r):aQ .tight tab aT FU Tryz.f92 none [.sl false false p0.length (ab aq p0)]=some (.clean (.sl false true r.length (ab aq r)),none):=by
 unfold jA at hh
 split at hh
 ·cases hh
  refine aw rfl Tryz.ntmps92 Tryz.results92 ?_
  simp only[w,seval,-Int.reduceToNat,Int.toNat_natCast,Int.natCast_nonneg]
 ·cases hh
noncomputable def oo:=ez (dJ (gg aq)) (fun x:(List av)=>jA x) (fun r:(List av) =>.clean (.sl false true r.length (ab aq r)))
theorem tK (p0:(List av)):oo none [.sl false false p0.length (ab aq p0)]=(jA p0).map fun r:(List av)=>(.clean (.sl false true r.length (ab aq r)),none):=aE _ _ _ p0
theorem Bi:bI Tryz.prog 92 oo:=bI.of (mode := .tight) tok bM.none mixed Tryz.func92 (by kernel_rfl) ⟨by kernel_rfl,by kernel_rfl⟩ (fun _=>Nat.le_of_ble_eq_true (by kernel_rfl)) (fun x r h=>CC x r h)
noncomputable def qW:=ez (dX (dU fA) (dJ (dU aq))) (fun x:az×av=>kJ x.1 x.2) (fun r:az×Int×Int =>.clean (.tup [.agg [.sl false false r.1.ak.length (ab aq r.1.ak)],.int .i64 r.2.1,.int .i64 r.2.2]))
theorem yj (p0_0:(List av)) (p1_0:ByteArray) (p1_1:Int) (p1_2:Int) (p1_3:Int) (p1_4:Int):qW none [.agg [.sl false false p0_0.length (ab aq p0_0)],.agg [.str p1_0,.int .i64 p1_1,.int .i64 p1_2,.int .i64 p1_3,.int .i64 p1_4]]=(kJ (az.mk p0_0) (av.mk p1_0 p1_1 p1_2 p1_3 p1_4)).map fun r:az×Int×Int=>(.clean (.tup [.agg [.sl false false r.1.ak.length (ab aq r.1.ak)],.int .i64 r.2.1,.int .i64 r.2.2]),none):=aE _ _ _ ((az.mk p0_0),(av.mk p1_0 p1_1 p1_2 p1_3 p1_4))
noncomputable def nS:Env:=(Am.ext (Am.ext aT 63 false jM) 92 false oo)
theorem FE:bM Tryz.prog nS:=((bM.none.add qv false).add Bi false)
theorem yG:type_of% (ai @w<|ai @j9<|ai @tK<|@nS.eq_1):=⟨@w,@j9,@tK,@nS.eq_1⟩
theorem IJ (p0:az) (p1:av) (r:az×Int×Int) (hh:kJ p0 p1=some r):aQ .clean tab nS FU Tryz.f52 none [.agg [.sl false false p0.ak.length (ab aq p0.ak)],.agg [.str p1.ct,.int .i64 p1.aN,.int .i64 p1.aU,.int .i64 p1.ca,.int .i64 p1.bK]]=some (.clean (.tup [.agg [.sl false false r.1.ak.length (ab aq r.1.ak)],.int .i64 r.2.1,.int .i64 r.2.2]),none):=by
 refine aw rfl Tryz.ntmps52 Tryz.results52 ?_
 unfold kJ at hh
 obtain⟨r1,hr1,hh⟩:=ae hh
 obtain⟨r2,hr2,hh⟩:=ae hh
 obtain⟨x3,hx3,hh⟩:=ae hh
 obtain⟨q4a,q4b,q4c,q4d⟩:=eo aq hx3
 simp only[bY]at q4b
 try simp only[yG,seval,-Int.reduceToNat,hr1,hr2,q4a,q4b,q4c,q4d]
 refine b6 (by kernel_rfl) ?_
 cases hh
 try simp only[yG,seval,-Int.reduceToNat,hr1,hr2,q4a,q4b,q4c,q4d]
theorem Ga:bI Tryz.prog 52 qW:=bI.of (mode := .clean) tok FE mixed Tryz.func52 (by kernel_rfl) ⟨by kernel_rfl,by kernel_rfl⟩ (fun _=>Nat.le_of_ble_eq_true (by kernel_rfl)) (fun x r h=>IJ x.1 x.2 r h)
noncomputable def l4:=ez (dX (dU fA) (dX RW (dX (aI .i64) (dJ (aI .i64))))) (fun x:az×ByteArray×Int×Int=>gq x.1 x.2.1 x.2.2.1 x.2.2.2) (fun r:az×Int×Int =>.clean (.tup [.agg [.sl false false r.1.ak.length (ab aq r.1.ak)],.int .i64 r.2.1,.int .i64 r.2.2]))
theorem my (p0_0:(List av)) (p1:ByteArray) (p2:Int) (p3:Int):l4 none [.agg [.sl false false p0_0.length (ab aq p0_0)],.str p1,.int .i64 p2,.int .i64 p3]=(gq (az.mk p0_0) p1 p2 p3).map fun r:az×Int×Int=>(.clean (.tup [.agg [.sl false false r.1.ak.length (ab aq r.1.ak)],.int .i64 r.2.1,.int .i64 r.2.2]),none):=aE _ _ _ ((az.mk p0_0),p1,p2,p3)
noncomputable def ml:Env:=(Am.ext (Am.ext (Am.ext aT 39 false fp) 51 false l5) 52 false qW)
theorem Cq:bM Tryz.prog ml:=(((bM.none.add gZ false).add tH false).add Ga false)
theorem dG:type_of% (ai @w<|ai @df<|ai @mz<|ai @yj<|@ml.eq_1):=⟨@w,@df,@mz,@yj,@ml.eq_1⟩
theorem FV (p0:az) (p1:ByteArray) (p2:Int) (p3:Int) (r:az×Int×Int) (hh:gq p0 p1 p2 p3=some r):aQ .clean tab ml FU Tryz.f20 none [.agg [.sl false false p0.ak.length (ab aq p0.ak)],.str p1,.int .i64 p2,.int .i64 p3]=some (.clean (.tup [.agg [.sl false false r.1.ak.length (ab aq r.1.ak)],.int .i64 r.2.1,.int .i64 r.2.2]),none):=by
 refine aw rfl Tryz.ntmps20 Tryz.results20 ?_
 unfold gq at hh
 obtain⟨r1,hr1,hh⟩:=ae hh
 try simp only[dG,seval,-Int.reduceToNat,hr1]
 obtain⟨o2,ho2,hh⟩:=ae hh
 refine bG 0 (fun s t H e=>match s with|s16j1=>∃v4j1:Nat,∃v8j1:Nat,∃v11j1:Nat,t 4=.ptr 4 v4j1 0∧t 8=.ptr 8 v8j1 0∧t 11=.ptr 11 v11j1 0∧t 16=.bool s16j1∧H 4=some ⟨v4j1,24,[.sl false false p0.ak.length (ab aq p0.ak)],false,false,false⟩∧H 8=some ⟨v8j1,24,[.sl true true 0 []],false,false,false⟩∧H 11=some ⟨v11j1,87,[.str p1,.int .i64 p2,.int .i64 p3,.int .i64 (-1),.int .i64 (-1)],false,false,false⟩) (fun s=>s=o2) ?_ ?_
 ·rintro s16j1 t H e ⟨v4j1,v8j1,v11j1,Zj1⟩ rfl
  try dsimp only at hh
  try simp only[dG,seval,-Int.reduceToNat,hr1,Zj1]
  refine sp aj hh (fun _ hh =>?_) (fun _ hh =>?_)
  ·cases hh
   try simp only[dG,seval,-Int.reduceToNat,hr1,Zj1]
  ·try simp only[dG,seval,-Int.reduceToNat,hr1,Zj1]
   refine sp aj hh (fun _ hh =>?_) (fun _ hh =>?_)
   ·cases hh
    try simp only[dG,seval,-Int.reduceToNat,hr1,Zj1]
   ·obtain⟨r5,hr5,hh⟩:=ae hh
    cases hh
    try simp only[dG,seval,-Int.reduceToNat,hr1,Zj1,hr5]
 ·clear hh
  have hh:=ho2
  try simp only[dG,seval,-Int.reduceToNat,hr1]
  refine sp aP hh (fun _ hh =>?_) (fun _ hh =>?_)
  ·cases hh
   try simp only[dG,seval,-Int.reduceToNat,hr1]
   rw[al]
   refine⟨_,rfl,?_⟩
   refine⟨0,0,1,?_,?_,?_,?_,?_,?_,?_⟩
   all_goals first|rfl|(simp only[dG,seval,-Int.reduceToNat,hr1]<;>rfl)
  ·obtain⟨r7,hr7,hh⟩:=ae hh
   cases hh
   try simp only[dG,seval,-Int.reduceToNat,hr1,hr7]
   rw[al]
   refine⟨_,rfl,?_⟩
   refine⟨0,0,1,?_,?_,?_,?_,?_,?_,?_⟩
   all_goals first|rfl|(simp only[dG,seval,-Int.reduceToNat,hr1,hr7]<;>rfl)
theorem tG:bI Tryz.prog 20 l4:=bI.of (mode := .clean) tok Cq mixed Tryz.func20 (by kernel_rfl) ⟨by kernel_rfl,by kernel_rfl⟩ (fun _=>Nat.le_of_ble_eq_true (by kernel_rfl)) (fun x r h=>FV x.1 x.2.1 x.2.2.1 x.2.2.2 r h)
noncomputable def jN:=ez (dX (gg (eI .i64)) (dJ (aI .i64))) (fun x:(List Int)×Int=>gp x.1 x.2) (fun r:Bool =>.clean (.bool r))
theorem iB (p0:(List Int)) (p1:Int):jN none [.sl false false p0.length (ab (eI .i64) p0),.int .i64 p1]=(gp p0 p1).map fun r:Bool=>(.clean (.bool r),none):=aE _ _ _ (p0,p1)
theorem FO (p0:(List Int)) (p1:Int) (r:Bool) (hh:gp p0 p1=some r):aQ .clean tab aT FU Tryz.f23 none [.sl false false p0.length (ab (eI .i64) p0),.int .i64 p1]=some (.clean (.bool r),none):=by
 refine aw rfl Tryz.ntmps23 Tryz.results23 ?_
 unfold gp at hh
 try simp only[w,seval,-Int.reduceToNat]
 obtain⟨o1,ho1,hh⟩:=ae hh
 refine bG 0 (fun s t H e=>match s with|s19j1=>t 0=.sl false false p0.length (ab (eI .i64) p0)∧t 1=.int .i64 p1∧t 19=.bool s19j1) (fun s=>s=o1) ?_ ?_
 ·rintro s19j1 t H e Zj1 rfl
  try dsimp only at hh
  try simp only[w,seval,-Int.reduceToNat,Zj1]
  refine sp aj hh (fun _ hh =>?_) (fun _ hh =>?_)
  ·cases hh
   try simp only[w,seval,-Int.reduceToNat,Zj1]
  ·try simp only[w,seval,-Int.reduceToNat,Zj1]
   obtain⟨o7,ho7,hh⟩:=ae hh
   refine ax (fun s t H e=>match s with|s22b=>t 1=.int .i64 p1∧t 20=.sl false false p0.length (ab (eI .i64) p0)∧t 21=.int .i64 (p0.length:Int)∧t 22=.int .i64 s22b) (fun o x t H e=>match o with|(.inl _)=>x=.exit 0|(.inr r)=>x=.ret∧fw .clean tab none [.tmp 4] ⟨t,H,e⟩=some (.clean (.bool r),none)) ho7 ?_ ?_ ?_
   ·refine⟨?_,?_,?_,?_⟩
    all_goals first|rfl|(simp only[w,seval,-Int.reduceToNat,Zj1]<;>rfl)
   ·rintro s22b t H e Zb c hh
    simp only[iU]at hh
    try simp only[w,seval,-Int.reduceToNat,Zb]
    refine sp aj hh (fun _ hh =>?_) (fun _ hh =>?_)
    ·obtain⟨x9,hx9,hh⟩:=ae hh
     have ax9:=bT (eI .i64) hx9
     simp only[bY]at ax9
     try simp only[w,seval,-Int.reduceToNat,Zb,ax9]
     refine sp aP hh (fun _ hh =>?_) (fun _ hh =>?_)
     ·cases hh
      try simp only[w,seval,-Int.reduceToNat,Zb,ax9]
      refine wq ⟨rfl,?_⟩
      try simp only[w,seval,-Int.reduceToNat,Zb,ax9]
     ·try simp only[w,seval,-Int.reduceToNat,Zb,ax9]
      refine sp aj hh (fun _ hh =>?_) (fun _ hh =>?_)
      ·cases hh
       try simp only[w,seval,-Int.reduceToNat,Zb,ax9]
       refine wq ⟨rfl,?_⟩
       try simp only[w,seval,-Int.reduceToNat,Zb,ax9]
      ·cases hh
       try simp only[w,seval,-Int.reduceToNat,Zb,ax9]
       refine jg ?_
       refine⟨?_,?_,?_,?_⟩
       all_goals first|rfl|(simp only[w,seval,-Int.reduceToNat,Zb,ax9]<;>rfl)
    ·cases hh
     try simp only[w,seval,-Int.reduceToNat,Zb]
     refine kl ?_
     exact rfl
   ·rintro x t H e hx
    rcases o7 with _|rb
    ·dsimp only at hx hh
     subst hx
     cases hh
     try simp only[w,seval,-Int.reduceToNat]
    ·dsimp only at hx hh
     obtain⟨rfl,hE⟩:=hx
     cases hh
     try simp only[aZ,aR,bc,cu,cr]
     exact hE
 ·clear hh
  have hh:=ho1
  try simp only[w,seval,-Int.reduceToNat]
  refine sp aP hh (fun _ hh =>?_) (fun _ hh =>?_)
  ·cases hh
   try simp only[w,seval,-Int.reduceToNat]
   rw[al]
   refine⟨_,rfl,?_⟩
   refine⟨?_,?_,?_⟩
   all_goals first|rfl|(simp only[w,seval,-Int.reduceToNat]<;>rfl)
  ·try simp only[w,seval,-Int.reduceToNat]
   refine sp aP hh (fun _ hh =>?_) (fun _ hh =>?_)
   ·cases hh
    try simp only[w,seval,-Int.reduceToNat]
    rw[al]
    refine⟨_,rfl,?_⟩
    refine⟨?_,?_,?_⟩
    all_goals first|rfl|(simp only[w,seval,-Int.reduceToNat]<;>rfl)
   ·cases hh
    try simp only[w,seval,-Int.reduceToNat]
    rw[al]
    refine⟨_,rfl,?_⟩
    refine⟨?_,?_,?_⟩
    all_goals first|rfl|(simp only[w,seval,-Int.reduceToNat]<;>rfl)
theorem oz:bI Tryz.prog 23 jN:=bI.of (mode := .clean) tok bM.none mixed Tryz.func23 (by kernel_rfl) ⟨by kernel_rfl,by kernel_rfl⟩ (fun _=>Nat.le_of_ble_eq_true (by kernel_rfl)) (fun x r h=>FO x.1 x.2 r h)
noncomputable def qU:=ez (dX (gg (jv (eI .i64))) (dX (aI .i64) (dJ (aI .i64)))) (fun x:(List (List Int))×Int×Int=>kH x.1 x.2.1 x.2.2) (fun r:(List Int)×Int =>.clean (.tup [.sl false false r.1.length (ab (eI .i64) r.1),.int .i64 r.2]))
theorem yh (p0:(List (List Int))) (p1:Int) (p2:Int):qU none [.sl false false p0.length (ab (jv (eI .i64)) p0),.int .i64 p1,.int .i64 p2]=(kH p0 p1 p2).map fun r:(List Int)×Int=>(.clean (.tup [.sl false false r.1.length (ab (eI .i64) r.1),.int .i64 r.2]),none):=aE _ _ _ (p0,p1,p2)
noncomputable def nQ:Env:=(Am.ext aT 23 false jN)
theorem FC:bM Tryz.prog nQ:=(bM.none.add oz false)
theorem aD:type_of% (ai @w<|ai @iB<|@nQ.eq_1):=⟨@w,@iB,@nQ.eq_1⟩
theorem IG (p0:(List (List Int))) (p1:Int) (p2:Int) (r:(List Int)×Int) (hh:kH p0 p1 p2=some r):aQ .clean tab nQ FU Tryz.f82 none [.sl false false p0.length (ab (jv (eI .i64)) p0),.int .i64 p1,.int .i64 p2]=some (.clean (.tup [.sl false false r.1.length (ab (eI .i64) r.1),.int .i64 r.2]),none):=by
 refine aw rfl Tryz.ntmps82 Tryz.results82 ?_
 unfold kH at hh
 try simp only[aD,seval,-Int.reduceToNat]
 obtain⟨o1,ho1,hh⟩:=ae hh
 refine bG 0 (fun s t H e=>match s with|s32j1=>t 0=.sl false false p0.length (ab (jv (eI .i64)) p0)∧t 1=.int .i64 p1∧t 2=.int .i64 p2∧t 32=.bool s32j1) (fun s=>s=o1) ?_ ?_
 ·rintro s32j1 t H e Zj1 rfl
  try dsimp only at hh
  try simp only[aD,seval,-Int.reduceToNat,Zj1]
  refine sp aj hh (fun _ hh =>?_) (fun _ hh =>?_)
  ·cases hh
   try simp only[aD,seval,-Int.reduceToNat,Zj1]
  ·obtain⟨x3,hx3,hh⟩:=ae hh
   obtain⟨q4a,q4b,q4c,q4d,q4e⟩:=mk_one (eI .i64) hx3
   simp only[bY]at q4d
   try simp only[aD,seval,-Int.reduceToNat,Zj1,q4a,q4b,q4c,q4d,q4e]
   obtain⟨o24,ho24,hh⟩:=ae hh
   refine ax (fun s t H e=>match s with|(s37b,l8b)=>∃v8b:Nat,t 1=.int .i64 p1∧t 2=.int .i64 p2∧t 8=.buf 8 v8b 1 0 (l8b).length∧t 35=.sl false false p0.length (ab (jv (eI .i64)) p0)∧t 36=.int .i64 (p0.length:Int)∧t 37=.int .i64 s37b∧H 8=some ⟨v8b,3,ab (eI .i64) l8b,false,true,false⟩) (fun o x t H e=>match o with|(.inl l8bx)=>x=.exit 0∧∃v8bx:Nat,t 8=.buf 8 v8bx 1 0 (l8bx).length∧H 8=some ⟨v8bx,3,ab (eI .i64) l8bx,false,true,false⟩|(.inr r)=>x=.ret∧fw .clean tab none [.tmp 6,.tmp 7] ⟨t,H,e⟩=some (.clean (.tup [.sl false false r.1.length (ab (eI .i64) r.1),.int .i64 r.2]),none)) ho24 ?_ ?_ ?_
   ·refine⟨e,?_,?_,?_,?_,?_,?_,?_⟩
    all_goals first|rfl|(simp only[aD,seval,-Int.reduceToNat,Zj1,q4a,q4b,q4c,q4d,q4e]<;>rfl)
   ·rintro⟨s37b,l8b⟩ t H e ⟨v8b,Zb⟩ c hh
    simp only[mC]at hh
    try simp only[aD,seval,-Int.reduceToNat,q4a,q4b,q4c,q4d,q4e,Zb]
    refine sp aj hh (fun _ hh =>?_) (fun _ hh =>?_)
    ·obtain⟨x26,hx26,hh⟩:=ae hh
     have ax26:=bT (jv (eI .i64)) hx26
     simp only[bY]at ax26
     try simp only[aD,seval,-Int.reduceToNat,q4a,q4b,q4c,q4d,q4e,Zb,ax26]
     obtain⟨o27,ho27,hh⟩:=ae hh
     refine bG 0 (fun s t H e=>match s with|s50j5=>∃v8j5:Nat,t 1=.int .i64 p1∧t 2=.int .i64 p2∧t 8=.buf 8 v8j5 1 0 (l8b).length∧t 10=.sl false false x26.length (ab (eI .i64) x26)∧t 35=.sl false false p0.length (ab (jv (eI .i64)) p0)∧t 36=.int .i64 (p0.length:Int)∧t 37=.int .i64 s37b∧t 50=.bool s50j5∧H 8=some ⟨v8j5,3,ab (eI .i64) l8b,false,true,false⟩) (fun s=>s=o27) ?_ ?_
     ·rintro s50j5 t H e ⟨v8j5,Zj5⟩ rfl
      try dsimp only at hh
      try simp only[aD,seval,-Int.reduceToNat,q4a,q4b,q4c,q4d,q4e,ax26,Zj5]
      refine sp aj hh (fun _ hh =>?_) (fun _ hh =>?_)
      ·cases hh
       try simp only[aD,seval,-Int.reduceToNat,q4a,q4b,q4c,q4d,q4e,ax26,Zj5]
       refine wq ⟨rfl,?_⟩
       try simp only[aD,seval,-Int.reduceToNat,q4a,q4b,q4c,q4d,q4e,ax26,Zj5]
      ·try simp only[aD,seval,-Int.reduceToNat,q4a,q4b,q4c,q4d,q4e,ax26,Zj5]
       obtain⟨o35,ho35,hh⟩:=ae hh
       refine ax (fun s t H e=>match s with|(s53f,l8f)=>∃v8f:Nat,t 1=.int .i64 p1∧t 2=.int .i64 p2∧t 8=.buf 8 v8f 1 0 (l8f).length∧t 35=.sl false false p0.length (ab (jv (eI .i64)) p0)∧t 36=.int .i64 (p0.length:Int)∧t 37=.int .i64 s37b∧t 51=.sl false false x26.length (ab (eI .i64) x26)∧t 52=.int .i64 (x26.length:Int)∧t 53=.int .i64 s53f∧H 8=some ⟨v8f,3,ab (eI .i64) l8f,false,true,false⟩) (fun o x t H e=>match o with|l8fx=>x=.exit 2∧∃v8fx:Nat,t 1=.int .i64 p1∧t 2=.int .i64 p2∧t 8=.buf 8 v8fx 1 0 (l8fx).length∧t 35=.sl false false p0.length (ab (jv (eI .i64)) p0)∧t 36=.int .i64 (p0.length:Int)∧t 37=.int .i64 s37b∧H 8=some ⟨v8fx,3,ab (eI .i64) l8fx,false,true,false⟩) ho35 ?_ ?_ ?_
       ·refine⟨v8j5,?_,?_,?_,?_,?_,?_,?_,?_,?_,?_⟩
        all_goals first|rfl|(simp only[aD,seval,-Int.reduceToNat,q4a,q4b,q4c,q4d,q4e,ax26,Zj5]<;>rfl)
       ·rintro⟨s53f,l8f⟩ t H e ⟨v8f,Zf⟩ c hh
        simp only[iF]at hh
        try simp only[aD,seval,-Int.reduceToNat,q4a,q4b,q4c,q4d,q4e,ax26,Zf]
        refine sp aj hh (fun _ hh =>?_) (fun _ hh =>?_)
        ·obtain⟨x37,hx37,hh⟩:=ae hh
         have ax37:=bT (eI .i64) hx37
         simp only[bY]at ax37
         obtain⟨x38,hx38,hh⟩:=ae hh
         have ax38:=bT (eI .i64) hx38
         simp only[bY]at ax38
         obtain⟨x39,hx39,hh⟩:=ae hh
         have q40:=pM hx39
         have ax38:=bT (eI .i64) hx38
         simp only[bY]at ax38
         have p41:=nV (eI .i64) (x':=x39) (fo:=0) (cs:=[.int .i64 x39]) hx38 rfl (Nat.le_of_ble_eq_true rfl)
         simp only[bY,Nat.add_zero]at p41
         have up41:=p41
         simp only[putCells,List.length_cons,List.length_nil,Nat.zero_add,Nat.reduceAdd]at up41
         cases hh
         try simp only[aD,seval,-Int.reduceToNat,q4a,q4b,q4c,q4d,q4e,ax26,Zf,ax37,ax38,q40,ax38,p41,up41]
         refine jg ?_
         refine⟨v8f,?_,?_,?_,?_,?_,?_,?_,?_,?_,?_⟩
         all_goals first|rfl|(simp only[aD,seval,-Int.reduceToNat,q4a,q4b,q4c,q4d,q4e,ax26,Zf,ax37,ax38,q40,ax38,p41,up41]<;>rfl)
        ·cases hh
         try simp only[aD,seval,-Int.reduceToNat,q4a,q4b,q4c,q4d,q4e,ax26,Zf]
         refine kl ?_
         refine⟨rfl,⟨v8f,?_,?_,?_,?_,?_,?_,?_⟩⟩
         all_goals first|rfl|(simp only[aD,seval,-Int.reduceToNat,q4a,q4b,q4c,q4d,q4e,ax26,Zf]<;>rfl)
       ·rintro x t H e hx
        obtain⟨l8fx,rfl⟩:∃z,z=o35:=⟨_,rfl⟩
        dsimp only at hx hh
        obtain⟨rfl,⟨v8fx,Zfx⟩⟩:=hx
        cases hh
        try simp only[aD,seval,-Int.reduceToNat,q4a,q4b,q4c,q4d,q4e,ax26,Zfx]
        refine jg ?_
        refine⟨v8fx,?_,?_,?_,?_,?_,?_,?_⟩
        all_goals first|rfl|(simp only[aD,seval,-Int.reduceToNat,q4a,q4b,q4c,q4d,q4e,ax26,Zfx]<;>rfl)
     ·clear hh
      have hh:=ho27
      try simp only[aD,seval,-Int.reduceToNat,q4a,q4b,q4c,q4d,q4e,Zb,ax26]
      refine sp aP hh (fun _ hh =>?_) (fun _ hh =>?_)
      ·cases hh
       try simp only[aD,seval,-Int.reduceToNat,q4a,q4b,q4c,q4d,q4e,Zb,ax26]
       rw[al]
       refine⟨_,rfl,?_⟩
       refine⟨v8b,?_,?_,?_,?_,?_,?_,?_,?_,?_⟩
       all_goals first|rfl|(simp only[aD,seval,-Int.reduceToNat,q4a,q4b,q4c,q4d,q4e,Zb,ax26]<;>rfl)
      ·obtain⟨r43,hr43,hh⟩:=ae hh
       cases hh
       try simp only[aD,seval,-Int.reduceToNat,q4a,q4b,q4c,q4d,q4e,Zb,ax26,hr43]
       rw[al]
       refine⟨_,rfl,?_⟩
       refine⟨v8b,?_,?_,?_,?_,?_,?_,?_,?_,?_⟩
       all_goals first|rfl|(simp only[aD,seval,-Int.reduceToNat,q4a,q4b,q4c,q4d,q4e,Zb,ax26,hr43]<;>rfl)
    ·cases hh
     try simp only[aD,seval,-Int.reduceToNat,q4a,q4b,q4c,q4d,q4e,Zb]
     refine kl ?_
     refine⟨rfl,⟨v8b,?_,?_⟩⟩
     all_goals first|rfl|(simp only[aD,seval,-Int.reduceToNat,q4a,q4b,q4c,q4d,q4e,Zb]<;>rfl)
   ·rintro x t H e hx
    rcases o24 with l8bx|rb
    ·dsimp only at hx hh
     obtain⟨rfl,⟨v8bx,Zbx⟩⟩:=hx
     cases hh
     try simp only[aD,seval,-Int.reduceToNat,q4a,q4b,q4c,q4d,q4e,Zbx]
    ·dsimp only at hx hh
     obtain⟨rfl,hE⟩:=hx
     cases hh
     try simp only[aZ,aR,bc,cu,cr]
     exact hE
 ·clear hh
  have hh:=ho1
  try simp only[aD,seval,-Int.reduceToNat]
  refine sp aP hh (fun _ hh =>?_) (fun _ hh =>?_)
  ·cases hh
   try simp only[aD,seval,-Int.reduceToNat]
   rw[al]
   refine⟨_,rfl,?_⟩
   refine⟨?_,?_,?_,?_⟩
   all_goals first|rfl|(simp only[aD,seval,-Int.reduceToNat]<;>rfl)
  ·try simp only[aD,seval,-Int.reduceToNat]
   refine sp aP hh (fun _ hh =>?_) (fun _ hh =>?_)
   ·cases hh
    try simp only[aD,seval,-Int.reduceToNat]
    rw[al]
    refine⟨_,rfl,?_⟩
    refine⟨?_,?_,?_,?_⟩
    all_goals first|rfl|(simp only[aD,seval,-Int.reduceToNat]<;>rfl)
   ·try simp only[aD,seval,-Int.reduceToNat]
    refine sp aP hh (fun _ hh =>?_) (fun _ hh =>?_)
    ·cases hh
     try simp only[aD,seval,-Int.reduceToNat]
     rw[al]
     refine⟨_,rfl,?_⟩
     refine⟨?_,?_,?_,?_⟩
     all_goals first|rfl|(simp only[aD,seval,-Int.reduceToNat]<;>rfl)
    ·try simp only[aD,seval,-Int.reduceToNat]
     refine sp aP hh (fun _ hh =>?_) (fun _ hh =>?_)
     ·cases hh
      try simp only[aD,seval,-Int.reduceToNat]
      rw[al]
      refine⟨_,rfl,?_⟩
      refine⟨?_,?_,?_,?_⟩
      all_goals first|rfl|(simp only[aD,seval,-Int.reduceToNat]<;>rfl)
     ·cases hh
      try simp only[aD,seval,-Int.reduceToNat]
      rw[al]
      refine⟨_,rfl,?_⟩
      refine⟨?_,?_,?_,?_⟩
      all_goals first|rfl|(simp only[aD,seval,-Int.reduceToNat]<;>rfl)
theorem F8:bI Tryz.prog 82 qU:=bI.of (mode := .clean) tok FC mixed Tryz.func82 (by kernel_rfl) ⟨by kernel_rfl,by kernel_rfl⟩ (fun _=>Nat.le_of_ble_eq_true (by kernel_rfl)) (fun x r h=>IG x.1 x.2.1 x.2.2 r h)
noncomputable def lR:=ez (dJ (gg (eI .i64))) (fun x:(List Int)=>iT x) (fun r:(List Int) =>.clean (.clo 156 0 [.ip [.sl false false r.length (ab (eI .i64) r)]]))
theorem qz (p0:(List Int)):lR none [.sl false false p0.length (ab (eI .i64) p0)]=(iT p0).map fun r:(List Int)=>(.clean (.clo 156 0 [.ip [.sl false false r.length (ab (eI .i64) r)]]),none):=aE _ _ _ p0
theorem xf:bI Tryz.prog 116 lR:=On
noncomputable def cM:=ez (dJ (OE 156 0 (dJ (OF (jv (eI .i64)))))) (fun x:(List Int)=>bF x) (fun r:(List Int) =>.fresh 3 1 r.length (ab (eI .i64) r))
theorem dT (p0:(List Int)):cM none [.clo 156 0 [.ip [.sl false false p0.length (ab (eI .i64) p0)]]]=(bF p0).map fun r:(List Int)=>(.fresh 3 1 r.length (ab (eI .i64) r),none):=aE _ _ _ p0
theorem gM:bI Tryz.prog 115 cM:=Oc
noncomputable def o0:=ez (dJ (gg (eI .i64))) (fun x:(List Int)=>il x) (fun r:Bool =>.clean (.bool r))
theorem vO (p0:(List Int)):o0 none [.sl false false p0.length (ab (eI .i64) p0)]=(il p0).map fun r:Bool=>(.clean (.bool r),none):=aE _ _ _ (p0)
noncomputable def mg:Env:=(Am.ext (Am.ext (Am.ext aT 70 true fZ) 115 false cM) 116 false lR)
theorem Cm:bM Tryz.prog mg:=(((bM.none.add lX true).add gM false).add xf false)
theorem Gv:type_of% (ai @w<|ai @dT<|ai @qz<|@mg.eq_1):=⟨@w,@dT,@qz,@mg.eq_1⟩
theorem FP (p0:(List Int)) (r:Bool) (hh:il p0=some r):aQ .clean tab mg FU Tryz.f83 none [.sl false false p0.length (ab (eI .i64) p0)]=some (.clean (.bool r),none):=by
 refine aw rfl Tryz.ntmps83 Tryz.results83 ?_
 unfold il at hh
 obtain⟨r1,hr1,hh⟩:=ae hh
 obtain⟨r2,hr2,hh⟩:=ae hh
 have i3:=nh [] [] r2
 try simp only[List.nil_append,List.append_nil,List.length_nil,aF,List.length_set,bY]at i3
 obtain⟨r4,hr4,hh⟩:=ae hh
 cases hh
 try simp only[Gv,seval,-Int.reduceToNat,hr1,hr2,i3,hr4]
theorem CJ:bI Tryz.prog 83 o0:=bI.of (mode := .clean) tok Cm mixed Tryz.func83 (by kernel_rfl) ⟨by kernel_rfl,by kernel_rfl⟩ (fun _=>Nat.le_of_ble_eq_true (by kernel_rfl)) (fun x r h=>FP x r h)
noncomputable def qT:=ez (dX (dU fA) (dX (gg (eI .i64)) (dX (gg (jv (eI .i64))) (dX (gg (eI .i64)) (dX (aI .i64) (dJ (aI .i64))))))) (fun x:az×(List Int)×(List (List Int))×(List Int)×Int×Int=>jC x.1 x.2.1 x.2.2.1 x.2.2.2.1 x.2.2.2.2.1 x.2.2.2.2.2) (fun r:(List Int)×Int =>.clean (.tup [.sl false false r.1.length (ab (eI .i64) r.1),.int .i64 r.2]))
theorem yg (p0_0:(List av)) (p1:(List Int)) (p2:(List (List Int))) (p3:(List Int)) (p4:Int) (p5:Int):qT none [.agg [.sl false false p0_0.length (ab aq p0_0)],.sl false false p1.length (ab (eI .i64) p1),.sl false false p2.length (ab (jv (eI .i64)) p2),.sl false false p3.length (ab (eI .i64) p3),.int .i64 p4,.int .i64 p5]=(jC (az.mk p0_0) p1 p2 p3 p4 p5).map fun r:(List Int)×Int=>(.clean (.tup [.sl false false r.1.length (ab (eI .i64) r.1),.int .i64 r.2]),none):=aE _ _ _ ((az.mk p0_0),p1,p2,p3,p4,p5)
noncomputable def nP:Env:=(Am.ext (Am.ext (Am.ext (Am.ext aT 21 false ln) 82 false qU) 83 false o0) 84 false kQ)
theorem FB:bM Tryz.prog nP:=((((bM.none.add pP false).add F8 false).add CJ false).add rW false)
theorem bp:type_of% (ai @w<|ai @ib<|ai @yh<|ai @vO<|ai @ll<|@nP.eq_1):=⟨@w,@ib,@yh,@vO,@ll,@nP.eq_1⟩
theorem IF (p0:az) (p1:(List Int)) (p2:(List (List Int))) (p3:(List Int)) (p4:Int) (p5:Int) (r:(List Int)×Int) (hh:jC p0 p1 p2 p3 p4 p5=some r):aQ .clean tab nP FU Tryz.f47 none [.agg [.sl false false p0.ak.length (ab aq p0.ak)],.sl false false p1.length (ab (eI .i64) p1),.sl false false p2.length (ab (jv (eI .i64)) p2),.sl false false p3.length (ab (eI .i64) p3),.int .i64 p4,.int .i64 p5]=some (.clean (.tup [.sl false false r.1.length (ab (eI .i64) r.1),.int .i64 r.2]),none):=by
 refine aw rfl Tryz.ntmps47 Tryz.results47 ?_
 unfold jC at hh
 obtain⟨r1,hr1,hh⟩:=ae hh
 try simp only[bp,seval,-Int.reduceToNat,hr1]
 refine sp aj hh (fun _ hh =>?_) (fun _ hh =>?_)
 ·cases hh
  try simp only[bp,seval,-Int.reduceToNat,hr1]
 ·try simp only[bp,seval,-Int.reduceToNat,hr1]
  obtain⟨o3,ho3,hh⟩:=ae hh
  refine bG 0 (fun s t H e=>match s with|s29j1=>∃v6j1:Nat,t 1=.sl false false p1.length (ab (eI .i64) p1)∧t 2=.sl false false p2.length (ab (jv (eI .i64)) p2)∧t 3=.sl false false p3.length (ab (eI .i64) p3)∧t 6=.ptr 6 v6j1 0∧t 14=.sl false false r1.1.length (ab (eI .i64) r1.1)∧t 29=.bool s29j1∧H 6=some ⟨v6j1,24,[.sl false false p0.ak.length (ab aq p0.ak)],false,false,false⟩) (fun s=>s=o3) ?_ ?_
  ·rintro s29j1 t H e ⟨v6j1,Zj1⟩ rfl
   try dsimp only at hh
   try simp only[bp,seval,-Int.reduceToNat,hr1,Zj1]
   refine sp aj hh (fun _ hh =>?_) (fun _ hh =>?_)
   ·cases hh
    try simp only[bp,seval,-Int.reduceToNat,hr1,Zj1]
   ·obtain⟨r5,hr5,hh⟩:=ae hh
    try simp only[bp,seval,-Int.reduceToNat,hr1,Zj1,hr5]
    refine sp aj hh (fun _ hh =>?_) (fun _ hh =>?_)
    ·cases hh
     try simp only[bp,seval,-Int.reduceToNat,hr1,Zj1,hr5]
    ·try simp only[bp,seval,-Int.reduceToNat,hr1,Zj1,hr5]
     obtain⟨o14,ho14,hh⟩:=ae hh
     refine ax (fun s t H e=>match s with|s47b=>∃v6b:Nat,t 2=.sl false false p2.length (ab (jv (eI .i64)) p2)∧t 3=.sl false false p3.length (ab (eI .i64) p3)∧t 6=.ptr 6 v6b 0∧t 14=.sl false false r1.1.length (ab (eI .i64) r1.1)∧t 45=.sl false false p1.length (ab (eI .i64) p1)∧t 46=.int .i64 (p1.length:Int)∧t 47=.int .i64 s47b∧H 6=some ⟨v6b,24,[.sl false false p0.ak.length (ab aq p0.ak)],false,false,false⟩) (fun o x t H e=>match o with|(.inl _)=>x=.exit 1∧t 14=.sl false false r1.1.length (ab (eI .i64) r1.1)|(.inr r)=>x=.ret∧fw .clean tab none [.tmp 12,.tmp 13] ⟨t,H,e⟩=some (.clean (.tup [.sl false false r.1.length (ab (eI .i64) r.1),.int .i64 r.2]),none)) ho14 ?_ ?_ ?_
     ·refine⟨v6j1,?_,?_,?_,?_,?_,?_,?_,?_⟩
      all_goals first|rfl|(simp only[bp,seval,-Int.reduceToNat,hr1,Zj1,hr5]<;>rfl)
     ·rintro s47b t H e ⟨v6b,Zb⟩ c hh
      simp only[kf]at hh
      try simp only[bp,seval,-Int.reduceToNat,hr1,hr5,Zb]
      refine sp aj hh (fun _ hh =>?_) (fun _ hh =>?_)
      ·obtain⟨x16,hx16,hh⟩:=ae hh
       have ax16:=bT (eI .i64) hx16
       simp only[bY]at ax16
       obtain⟨x17,hx17,hh⟩:=ae hh
       have ax17:=bT (jv (eI .i64)) hx17
       simp only[bY]at ax17
       obtain⟨r18,hr18,hh⟩:=ae hh
       obtain⟨x19,hx19,hh⟩:=ae hh
       have ax19:=bT (eI .i64) hx19
       simp only[bY]at ax19
       obtain⟨r20,hr20,hh⟩:=ae hh
       try simp only[bp,seval,-Int.reduceToNat,hr1,hr5,Zb,ax16,ax17,hr18,ax19,hr20]
       refine b6 (by kernel_rfl) ?_
       try simp only[bp,seval,-Int.reduceToNat,hr1,hr5,Zb,ax16,ax17,hr18,ax19,hr20]
       refine sp aj hh (fun _ hh =>?_) (fun _ hh =>?_)
       ·cases hh
        try simp only[bp,seval,-Int.reduceToNat,hr1,hr5,Zb,ax16,ax17,hr18,ax19,hr20]
        refine wq ⟨rfl,?_⟩
        try simp only[bp,seval,-Int.reduceToNat,hr1,hr5,Zb,ax16,ax17,hr18,ax19,hr20]
       ·cases hh
        try simp only[bp,seval,-Int.reduceToNat,hr1,hr5,Zb,ax16,ax17,hr18,ax19,hr20]
        refine jg ?_
        refine⟨v6b,?_,?_,?_,?_,?_,?_,?_,?_⟩
        all_goals first|rfl|(simp only[bp,seval,-Int.reduceToNat,hr1,hr5,Zb,ax16,ax17,hr18,ax19,hr20]<;>rfl)
      ·cases hh
       try simp only[bp,seval,-Int.reduceToNat,hr1,hr5,Zb]
       refine kl ?_
       refine⟨rfl,?_⟩
       all_goals first|rfl|(simp only[bp,seval,-Int.reduceToNat,hr1,hr5,Zb]<;>rfl)
     ·rintro x t H e hx
      rcases o14 with _|rb
      ·dsimp only at hx hh
       obtain⟨rfl,Zbx⟩:=hx
       cases hh
       try simp only[bp,seval,-Int.reduceToNat,hr1,hr5,Zbx]
      ·dsimp only at hx hh
       obtain⟨rfl,hE⟩:=hx
       cases hh
       try simp only[aZ,aR,bc,cu,cr]
       exact hE
  ·clear hh
   have hh:=ho3
   try simp only[bp,seval,-Int.reduceToNat,hr1]
   refine sp aP hh (fun _ hh =>?_) (fun _ hh =>?_)
   ·cases hh
    try simp only[bp,seval,-Int.reduceToNat,hr1]
    rw[al]
    refine⟨_,rfl,?_⟩
    refine⟨0,?_,?_,?_,?_,?_,?_,?_⟩
    all_goals first|rfl|(simp only[bp,seval,-Int.reduceToNat,hr1]<;>rfl)
   ·cases hh
    try simp only[bp,seval,-Int.reduceToNat,hr1]
    rw[al]
    refine⟨_,rfl,?_⟩
    refine⟨0,?_,?_,?_,?_,?_,?_,?_⟩
    all_goals first|rfl|(simp only[bp,seval,-Int.reduceToNat,hr1]<;>rfl)
theorem F7:bI Tryz.prog 47 qT:=bI.of (mode := .clean) tok FB mixed Tryz.func47 (by kernel_rfl) ⟨by kernel_rfl,by kernel_rfl⟩ (fun _=>Nat.le_of_ble_eq_true (by kernel_rfl)) (fun x r h=>IF x.1 x.2.1 x.2.2.1 x.2.2.2.1 x.2.2.2.2.1 x.2.2.2.2.2 r h)
theorem T1:Oy Tryz.prog 85 (3,1,8):=NI Tryz.T3 Tryz.func85 ⟨by kernel_rfl,by kernel_rfl⟩
noncomputable def qS:=ez (dX (gg (eI .i64)) (dJ (aI .i64))) (fun x:(List Int)×Int=>jB x.1 x.2) (fun r:(List Int)×Int =>.clean (.tup [.sl false false r.1.length (ab (eI .i64) r.1),.int .i64 r.2]))
theorem yf (p0:(List Int)) (p1:Int):qS none [.sl false false p0.length (ab (eI .i64) p0),.int .i64 p1]=(jB p0 p1).map fun r:(List Int)×Int=>(.clean (.tup [.sl false false r.1.length (ab (eI .i64) r.1),.int .i64 r.2]),none):=aE _ _ _ (p0,p1)
noncomputable def nO:Env:=(Am.AX 85 (3,1,8) (Am.ext aT 23 false jN))
theorem FA:bM Tryz.prog nO:=(bM.AX (bM.none.add oz false) T1)
theorem bV:type_of% (ai @w<|ai @iB<|@nO.eq_1):=⟨@w,@iB,@nO.eq_1⟩
theorem IE (p0:(List Int)) (p1:Int) (r:(List Int)×Int) (hh:jB p0 p1=some r):aQ .clean tab nO FU Tryz.f48 none [.sl false false p0.length (ab (eI .i64) p0),.int .i64 p1]=some (.clean (.tup [.sl false false r.1.length (ab (eI .i64) r.1),.int .i64 r.2]),none):=by
 refine aw rfl Tryz.ntmps48 Tryz.results48 ?_
 unfold jB at hh
 obtain⟨r1,hr1,hh⟩:=ae hh
 try simp only[bV,ne_eq,not_false_eq_true,seval,-Int.reduceToNat,hr1]
 refine sp aj hh (fun _ hh =>?_) (fun _ hh =>?_)
 ·cases hh
  try simp only[bV,ne_eq,not_false_eq_true,seval,-Int.reduceToNat,hr1]
 ·obtain⟨x3,hx3,hh⟩:=ae hh
  obtain⟨q4a,q4b,q4c,q4d,q4e,q4f,q4g⟩:=T4 (eI .i64) hx3
  simp only[bY]at q4d
  try simp only[bV,ne_eq,not_false_eq_true,seval,-Int.reduceToNat,hr1,q4a,q4b,q4c,q4d,q4e,q4f,q4g]
  obtain⟨o18,ho18,hh⟩:=ae hh
  refine ax (fun s t H e=>match s with|(s20a,l6a,l7a)=>∃v6a:Nat,∃v7a:Nat,t 6=.buf 6 v6a 1 0 (l6a).length∧t 7=.buf 7 v7a 1 0 (l7a).length∧t 18=.sl false false p0.length (ab (eI .i64) p0)∧t 19=.int .i64 (p0.length:Int)∧t 20=.int .i64 s20a∧H 6=some ⟨v6a,3,ab (eI .i64) l6a,false,true,false⟩∧H 7=some ⟨v7a,3,ab (eI .i64) l7a,false,true,false⟩) (fun o x t H e=>match o with|l6ax=>x=.exit 0∧∃v6ax:Nat,t 6=.buf 6 v6ax 1 0 (l6ax).length∧H 6=some ⟨v6ax,3,ab (eI .i64) l6ax,false,true,false⟩) ho18 ?_ ?_ ?_
  ·refine⟨2,3,?_,?_,?_,?_,?_,?_,?_⟩
   all_goals first|rfl|(simp only[bV,ne_eq,not_false_eq_true,seval,-Int.reduceToNat,hr1,q4a,q4b,q4c,q4d,q4e,q4f,q4g]<;>rfl)
  ·rintro⟨s20a,l6a,l7a⟩ t H e ⟨v6a,v7a,Za⟩ c hh
   simp only[iD]at hh
   try simp only[bV,ne_eq,not_false_eq_true,seval,-Int.reduceToNat,hr1,q4a,q4b,q4c,q4d,q4e,q4f,q4g,Za]
   refine sp aj hh (fun _ hh =>?_) (fun _ hh =>?_)
   ·obtain⟨x20,hx20,hh⟩:=ae hh
    have ax20:=bT (eI .i64) hx20
    simp only[bY]at ax20
    try simp only[bV,ne_eq,not_false_eq_true,seval,-Int.reduceToNat,hr1,q4a,q4b,q4c,q4d,q4e,q4f,q4g,Za,ax20]
    obtain⟨o24,ho24,hh⟩:=ae hh
    refine ax (fun s t H e=>match s with|(s9c,s10c)=>∃v6c:Nat,∃v7c:Nat,t 6=.buf 6 v6c 1 0 (l6a).length∧t 7=.buf 7 v7c 1 0 (l7a).length∧t 9=.int .i64 s9c∧t 10=.int .i64 s10c∧t 18=.sl false false p0.length (ab (eI .i64) p0)∧t 19=.int .i64 (p0.length:Int)∧t 20=.int .i64 s20a∧H 6=some ⟨v6c,3,ab (eI .i64) l6a,false,true,false⟩∧H 7=some ⟨v7c,3,ab (eI .i64) l7a,false,true,false⟩) (fun o x t H e=>match o with|(s9cx,s10cx)=>x=.exit 2∧∃v6cx:Nat,∃v7cx:Nat,t 6=.buf 6 v6cx 1 0 (l6a).length∧t 7=.buf 7 v7cx 1 0 (l7a).length∧t 9=.int .i64 s9cx∧t 10=.int .i64 s10cx∧t 18=.sl false false p0.length (ab (eI .i64) p0)∧t 19=.int .i64 (p0.length:Int)∧t 20=.int .i64 s20a∧H 6=some ⟨v6cx,3,ab (eI .i64) l6a,false,true,false⟩∧H 7=some ⟨v7cx,3,ab (eI .i64) l7a,false,true,false⟩) ho24 ?_ ?_ ?_
    ·refine⟨v6a,v7a,?_,?_,?_,?_,?_,?_,?_,?_,?_⟩
     all_goals first|rfl|(simp only[bV,ne_eq,not_false_eq_true,seval,-Int.reduceToNat,hr1,q4a,q4b,q4c,q4d,q4e,q4f,q4g,Za,ax20]<;>rfl)
    ·rintro⟨s9c,s10c⟩ t H e ⟨v6c,v7c,Zc⟩ c hh
     simp only[iE]at hh
     try simp only[bV,ne_eq,not_false_eq_true,seval,-Int.reduceToNat,hr1,q4a,q4b,q4c,q4d,q4e,q4f,q4g,ax20,Zc]
     refine sp bm hh (fun _ hh =>?_) (fun _ hh =>?_)
     ·obtain⟨x26,hx26,hh⟩:=ae hh
      have ax26:=bT (eI .i64) hx26
      simp only[bY]at ax26
      try simp only[bV,ne_eq,not_false_eq_true,seval,-Int.reduceToNat,hr1,q4a,q4b,q4c,q4d,q4e,q4f,q4g,ax20,Zc,ax26]
      refine sp aj hh (fun _ hh =>?_) (fun _ hh =>?_)
      ·cases hh
       try simp only[bV,ne_eq,not_false_eq_true,seval,-Int.reduceToNat,hr1,q4a,q4b,q4c,q4d,q4e,q4f,q4g,ax20,Zc,ax26]
       refine jg ?_
       refine⟨v6c,v7c,?_,?_,?_,?_,?_,?_,?_,?_,?_⟩
       all_goals first|rfl|(simp only[bV,ne_eq,not_false_eq_true,seval,-Int.reduceToNat,hr1,q4a,q4b,q4c,q4d,q4e,q4f,q4g,ax20,Zc,ax26]<;>rfl)
      ·cases hh
       try simp only[bV,ne_eq,not_false_eq_true,seval,-Int.reduceToNat,hr1,q4a,q4b,q4c,q4d,q4e,q4f,q4g,ax20,Zc,ax26]
       refine kl ?_
       refine⟨rfl,⟨v6c,v7c,?_,?_,?_,?_,?_,?_,?_,?_,?_⟩⟩
       all_goals first|rfl|(simp only[bV,ne_eq,not_false_eq_true,seval,-Int.reduceToNat,hr1,q4a,q4b,q4c,q4d,q4e,q4f,q4g,ax20,Zc,ax26]<;>rfl)
     ·cases hh
      try simp only[bV,ne_eq,not_false_eq_true,seval,-Int.reduceToNat,hr1,q4a,q4b,q4c,q4d,q4e,q4f,q4g,ax20,Zc]
      refine kl ?_
      refine⟨rfl,⟨v6c,v7c,?_,?_,?_,?_,?_,?_,?_,?_,?_⟩⟩
      all_goals first|rfl|(simp only[bV,ne_eq,not_false_eq_true,seval,-Int.reduceToNat,hr1,q4a,q4b,q4c,q4d,q4e,q4f,q4g,ax20,Zc]<;>rfl)
    ·rintro x t H e hx
     rcases o24 with⟨s9cx,s10cx⟩
     dsimp only at hx hh
     obtain⟨rfl,⟨v6cx,v7cx,Zcx⟩⟩:=hx
     obtain⟨x28,hx28,hh⟩:=ae hh
     obtain⟨q29a,q29b,q29c,q29d⟩:=eo (eI .i64) hx28
     simp only[bY]at q29b
     obtain⟨x30,hx30,hh⟩:=ae hh
     obtain⟨q31a,q31b,q31c,q31d,q31e⟩:=Sk (eI .i64) hx30
     simp only[bY]at q31e
     cases hh
     try simp only[bV,ne_eq,not_false_eq_true,seval,-Int.reduceToNat,hr1,q4a,q4b,q4c,q4d,q4e,q4f,q4g,ax20,Zcx,q29a,q29b,q29c,q29d,q31a,q31b,q31c,q31d,q31e]
     refine jg ?_
     refine⟨e,e,?_,?_,?_,?_,?_,?_,?_⟩
     all_goals first|rfl|(simp only[bV,ne_eq,not_false_eq_true,seval,-Int.reduceToNat,hr1,q4a,q4b,q4c,q4d,q4e,q4f,q4g,ax20,Zcx,q29a,q29b,q29c,q29d,q31a,q31b,q31c,q31d,q31e]<;>rfl)
   ·cases hh
    try simp only[bV,ne_eq,not_false_eq_true,seval,-Int.reduceToNat,hr1,q4a,q4b,q4c,q4d,q4e,q4f,q4g,Za]
    refine kl ?_
    refine⟨rfl,⟨v6a,?_,?_⟩⟩
    all_goals first|rfl|(simp only[bV,ne_eq,not_false_eq_true,seval,-Int.reduceToNat,hr1,q4a,q4b,q4c,q4d,q4e,q4f,q4g,Za]<;>rfl)
  ·rintro x t H e hx
   obtain⟨l6ax,rfl⟩:∃z,z=o18:=⟨_,rfl⟩
   dsimp only at hx hh
   obtain⟨rfl,⟨v6ax,Zax⟩⟩:=hx
   cases hh
   try simp only[bV,ne_eq,not_false_eq_true,seval,-Int.reduceToNat,hr1,q4a,q4b,q4c,q4d,q4e,q4f,q4g,Zax]
theorem F6:bI Tryz.prog 48 qS:=bI.of (mode := .clean) tok FA mixed Tryz.func48 (by kernel_rfl) ⟨by kernel_rfl,by kernel_rfl⟩ (fun _=>Nat.le_of_ble_eq_true (by kernel_rfl)) (fun x r h=>IE x.1 x.2 r h)
noncomputable def kK:=ez (dX (dU fA) (dX (gg (eI .i64)) (dX (gg (jv (eI .i64))) (dX (gg (eI .i64)) (dX (gg (eI .i64)) (dJ (aI .i64))))))) (fun x:az×(List Int)×(List (List Int))×(List Int)×(List Int)×Int=>dY x.1 x.2.1 x.2.2.1 x.2.2.2.1 x.2.2.2.2.1 x.2.2.2.2.2) (fun r:(List Int)×Int =>.clean (.tup [.sl false false r.1.length (ab (eI .i64) r.1),.int .i64 r.2]))
theorem iQ (p0_0:(List av)) (p1:(List Int)) (p2:(List (List Int))) (p3:(List Int)) (p4:(List Int)) (p5:Int):kK none [.agg [.sl false false p0_0.length (ab aq p0_0)],.sl false false p1.length (ab (eI .i64) p1),.sl false false p2.length (ab (jv (eI .i64)) p2),.sl false false p3.length (ab (eI .i64) p3),.sl false false p4.length (ab (eI .i64) p4),.int .i64 p5]=(dY (az.mk p0_0) p1 p2 p3 p4 p5).map fun r:(List Int)×Int=>(.clean (.tup [.sl false false r.1.length (ab (eI .i64) r.1),.int .i64 r.2]),none):=aE _ _ _ ((az.mk p0_0),p1,p2,p3,p4,p5)
noncomputable def kU:Env:=(Am.ext (Am.ext (Am.ext aT 42 false kM) 47 false qT) 48 false qS)
theorem AI:bM Tryz.prog kU:=(((bM.none.add rR false).add F7 false).add F6 false)
theorem cQ:type_of% (ai @w<|ai @lh<|ai @yg<|ai @yf<|@kU.eq_1):=⟨@w,@lh,@yg,@yf,@kU.eq_1⟩
theorem Cu (p0:az) (p1:(List Int)) (p2:(List (List Int))) (p3:(List Int)) (p4:(List Int)) (p5:Int) (r:(List Int)×Int) (hh:dY p0 p1 p2 p3 p4 p5=some r):aQ .clean tab kU FU Tryz.f15 none [.agg [.sl false false p0.ak.length (ab aq p0.ak)],.sl false false p1.length (ab (eI .i64) p1),.sl false false p2.length (ab (jv (eI .i64)) p2),.sl false false p3.length (ab (eI .i64) p3),.sl false false p4.length (ab (eI .i64) p4),.int .i64 p5]=some (.clean (.tup [.sl false false r.1.length (ab (eI .i64) r.1),.int .i64 r.2]),none):=by
 refine aw rfl Tryz.ntmps15 Tryz.results15 ?_
 unfold dY at hh
 obtain⟨r1,hr1,hh⟩:=ae hh
 try simp only[cQ,seval,-Int.reduceToNat,hr1]
 refine sp aj hh (fun _ hh =>?_) (fun _ hh =>?_)
 ·cases hh
  try simp only[cQ,seval,-Int.reduceToNat,hr1]
 ·obtain⟨r3,hr3,hh⟩:=ae hh
  try simp only[cQ,seval,-Int.reduceToNat,hr1,hr3]
  refine sp aj hh (fun _ hh =>?_) (fun _ hh =>?_)
  ·cases hh
   try simp only[cQ,seval,-Int.reduceToNat,hr1,hr3]
  ·obtain⟨r5,hr5,hh⟩:=ae hh
   try simp only[cQ,seval,-Int.reduceToNat,hr1,hr3,hr5]
   obtain⟨o11,ho11,hh⟩:=ae hh
   refine ax (fun s t H e=>match s with|(s46a,l18a)=>∃v18a:Nat,t 4=.sl false false p4.length (ab (eI .i64) p4)∧t 18=.buf 18 v18a 1 0 (l18a).length∧t 44=.sl false false r5.1.length (ab (eI .i64) r5.1)∧t 45=.int .i64 (r5.1.length:Int)∧t 46=.int .i64 s46a∧H 18=some ⟨v18a,3,ab (eI .i64) l18a,false,true,false⟩) (fun o x t H e=>match o with|l18ax=>x=.exit 0∧∃v18ax:Nat,t 18=.buf 18 v18ax 1 0 (l18ax).length∧H 18=some ⟨v18ax,3,ab (eI .i64) l18ax,false,true,false⟩) ho11 ?_ ?_ ?_
   ·refine⟨5,?_,?_,?_,?_,?_,?_⟩
    all_goals first|rfl|(simp only[cQ,seval,-Int.reduceToNat,hr1,hr3,hr5]<;>rfl)
   ·rintro⟨s46a,l18a⟩ t H e ⟨v18a,Za⟩ c hh
    simp only[jP]at hh
    try simp only[cQ,seval,-Int.reduceToNat,hr1,hr3,hr5,Za]
    refine sp aj hh (fun _ hh =>?_) (fun _ hh =>?_)
    ·obtain⟨x13,hx13,hh⟩:=ae hh
     have ax13:=bT (eI .i64) hx13
     simp only[bY]at ax13
     obtain⟨x14,hx14,hh⟩:=ae hh
     have ax14:=bT (eI .i64) hx14
     simp only[bY]at ax14
     obtain⟨x15,hx15,hh⟩:=ae hh
     obtain⟨q16a,q16b,q16c,q16d⟩:=eo (eI .i64) hx15
     simp only[bY]at q16b
     cases hh
     try simp only[cQ,seval,-Int.reduceToNat,hr1,hr3,hr5,Za,ax13,ax14,q16a,q16b,q16c,q16d]
     refine jg ?_
     refine⟨e+1+1,?_,?_,?_,?_,?_,?_⟩
     all_goals first|rfl|(simp only[cQ,seval,-Int.reduceToNat,hr1,hr3,hr5,Za,ax13,ax14,q16a,q16b,q16c,q16d]<;>rfl)
    ·cases hh
     try simp only[cQ,seval,-Int.reduceToNat,hr1,hr3,hr5,Za]
     refine kl ?_
     refine⟨rfl,⟨v18a,?_,?_⟩⟩
     all_goals first|rfl|(simp only[cQ,seval,-Int.reduceToNat,hr1,hr3,hr5,Za]<;>rfl)
   ·rintro x t H e hx
    obtain⟨l18ax,rfl⟩:∃z,z=o11:=⟨_,rfl⟩
    dsimp only at hx hh
    obtain⟨rfl,⟨v18ax,Zax⟩⟩:=hx
    cases hh
    try simp only[cQ,seval,-Int.reduceToNat,hr1,hr3,hr5,Zax]
theorem rO:bI Tryz.prog 15 kK:=bI.of (mode := .clean) tok AI mixed Tryz.func15 (by kernel_rfl) ⟨by kernel_rfl,by kernel_rfl⟩ (fun _=>Nat.le_of_ble_eq_true (by kernel_rfl)) (fun x r h=>Cu x.1 x.2.1 x.2.2.1 x.2.2.2.1 x.2.2.2.2.1 x.2.2.2.2.2 r h)
noncomputable def qP:=ez (RQ) (fun x:Unit=>kB) (fun r:Bool =>.clean (.bool r))
theorem yd:qP none []=(kB).map fun r:Bool=>(.clean (.bool r),none):=aE _ _ _ ()
noncomputable def nL:Env:=(Am.ext (Am.ext (Am.ext (Am.ext (Am.ext (Am.ext (Am.ext (Am.ext aT 13 false kL) 15 false kK) 18 false mK) 20 false l4) 21 false ln) 35 false oh) 37 false pb) 38 false ud)
theorem Fx:bM Tryz.prog nL:=((((((((bM.none.add rP false).add rO false).add yT false).add tG false).add pP false).add Bh false).add CL false).add I6 false)
theorem aW:type_of% (ai @w<|ai @gE<|ai @iQ<|ai @j8<|ai @my<|ai @ib<|ai @tJ<|ai @pT<|ai @kE<|@nL.eq_1):=⟨@w,@gE,@iQ,@j8,@my,@ib,@tJ,@pT,@kE,@nL.eq_1⟩
theorem Iy (r:Bool) (hh:kB=some r):aQ .clean tab nL FU Tryz.f9 none []=some (.clean (.bool r),none):=by
 refine aw rfl Tryz.ntmps9 Tryz.results9 ?_
 unfold kB at hh
 have i1:=pT ([]) ([ByteArray.mk #[97],ByteArray.mk #[98],ByteArray.mk #[99]]) ([30,20,10]) ([7,8,9])
 simp only[aF,bY,List.length_cons,List.length_nil,Nat.zero_add,Nat.reduceAdd,List.length_set]at i1
 obtain⟨r2,hr2,hh⟩:=ae hh
 try simp only[aW,seval,-Int.reduceToNat,i1,hr2]
 obtain⟨o3,ho3,hh⟩:=ae hh
 refine bG 0 (fun s t H e=>match s with|s37j1=>∃v1j1:Nat,t 1=.ptr 1 v1j1 0∧t 3=.sl false false r2.2.2.1.length (ab (eI .i64) r2.2.2.1)∧t 37=.bool s37j1∧H 1=some ⟨v1j1,24,[.sl false false r2.1.ak.length (ab aq r2.1.ak)],false,false,false⟩) (fun s=>s=o3) ?_ ?_
 ·rintro s37j1 t H e ⟨v1j1,Zj1⟩ rfl
  try dsimp only at hh
  try simp only[aW,seval,-Int.reduceToNat,i1,hr2,Zj1]
  refine sp aj hh (fun _ hh =>?_) (fun _ hh =>?_)
  ·cases hh
   try simp only[aW,seval,-Int.reduceToNat,i1,hr2,Zj1]
  ·obtain⟨r5,hr5,hh⟩:=ae hh
   obtain⟨r6,hr6,hh⟩:=ae hh
   have i7:=kE r2.1.ak ([1]) 20 ([(aK.mk 1 r5)]) ([])
   simp only[aF,bY,List.length_cons,List.length_nil,Nat.zero_add,Nat.reduceAdd,List.length_set]at i7
   obtain⟨r8,hr8,hh⟩:=ae hh
   try simp only[aW,seval,-Int.reduceToNat,i1,hr2,Zj1,hr5,hr6,i7,hr8]
   obtain⟨o9,ho9,hh⟩:=ae hh
   refine bG 0 (fun s t H e=>match s with|s7j2=>∃v1j2:Nat,∃v5j2:Nat,∃v6j2:Nat,t 1=.ptr 1 v1j2 0∧t 3=.sl false false r2.2.2.1.length (ab (eI .i64) r2.2.2.1)∧t 5=.ptr 5 v5j2 0∧t 6=.ptr 6 v6j2 0∧t 7=.bool s7j2∧H 1=some ⟨v1j2,24,[.sl false false r2.1.ak.length (ab aq r2.1.ak)],false,false,false⟩∧H 5=some ⟨v5j2,55,[.int .i64 1,.int .i64 r5.bz.cH.ah,.sl false false r5.bz.cH.aa.length (ab (eI .i64) r5.bz.cH.aa),.int .i64 r5.bz.cB.ah,.sl false false r5.bz.cB.aa.length (ab (eI .i64) r5.bz.cB.aa),.int .i64 r5.aY.cH.ah,.sl false false r5.aY.cH.aa.length (ab (eI .i64) r5.aY.cH.aa),.int .i64 r5.aY.cB.ah,.sl false false r5.aY.cB.aa.length (ab (eI .i64) r5.aY.cB.aa)],false,false,false⟩∧H 6=some ⟨v6j2,55,[.int .i64 1,.int .i64 r6.bz.cH.ah,.sl false false r6.bz.cH.aa.length (ab (eI .i64) r6.bz.cH.aa),.int .i64 r6.bz.cB.ah,.sl false false r6.bz.cB.aa.length (ab (eI .i64) r6.bz.cB.aa),.int .i64 r6.aY.cH.ah,.sl false false r6.aY.cH.aa.length (ab (eI .i64) r6.aY.cH.aa),.int .i64 r6.aY.cB.ah,.sl false false r6.aY.cB.aa.length (ab (eI .i64) r6.aY.cB.aa)],false,false,false⟩) (fun s=>s=o9) ?_ ?_
   ·rintro s7j2 t H e ⟨v1j2,v5j2,v6j2,Zj2⟩ rfl
    try dsimp only at hh
    have i10:=kE r2.1.ak ([1]) 20 ([(aK.mk 1 r5),(aK.mk 1 r6)]) ([(bt.mk 1 2)])
    simp only[aF,bY,List.length_cons,List.length_nil,Nat.zero_add,Nat.reduceAdd,List.length_set]at i10
    obtain⟨r11,hr11,hh⟩:=ae hh
    have i12:=gE r2.1.ak 4 60 24 ([1,1]) ([]) ([])
    simp only[aF,bY,List.length_cons,List.length_nil,Nat.zero_add,Nat.reduceAdd,List.length_set]at i12
    obtain⟨r13,hr13,hh⟩:=ae hh
    have i14:=ib ([2,0])
    simp only[aF,bY,List.length_cons,List.length_nil,Nat.zero_add,Nat.reduceAdd,List.length_set]at i14
    obtain⟨r15,hr15,hh⟩:=ae hh
    obtain⟨r16,hr16,hh⟩:=ae hh
    try simp only[aW,seval,-Int.reduceToNat,i1,hr2,hr5,hr6,i7,hr8,Zj2,i10,hr11,i12,hr13,i14,hr15,hr16]
    refine b6 (by kernel_rfl) ?_
    have i17:=iQ r16.1.ak ([r16.2.1]) ([[2,0]]) ([5]) r2.2.2.1 2
    simp only[aF,bY,List.length_cons,List.length_nil,Nat.zero_add,Nat.reduceAdd,List.length_set]at i17
    obtain⟨r18,hr18,hh⟩:=ae hh
    try simp only[aW,seval,-Int.reduceToNat,i1,hr2,hr5,hr6,i7,hr8,Zj2,i10,hr11,i12,hr13,i14,hr15,hr16,i17,hr18]
    refine sp bm hh (fun _ hh =>?_) (fun _ hh =>?_)
    ·try simp only[aW,seval,-Int.reduceToNat,i1,hr2,hr5,hr6,i7,hr8,Zj2,i10,hr11,i12,hr13,i14,hr15,hr16,i17,hr18]
     refine sp bm hh (fun _ hh =>?_) (fun _ hh =>?_)
     ·try simp only[aW,seval,-Int.reduceToNat,i1,hr2,hr5,hr6,i7,hr8,Zj2,i10,hr11,i12,hr13,i14,hr15,hr16,i17,hr18]
      refine sp bm hh (fun _ hh =>?_) (fun _ hh =>?_)
      ·try simp only[aW,seval,-Int.reduceToNat,i1,hr2,hr5,hr6,i7,hr8,Zj2,i10,hr11,i12,hr13,i14,hr15,hr16,i17,hr18]
       refine sp bm hh (fun _ hh =>?_) (fun _ hh =>?_)
       ·try simp only[aW,seval,-Int.reduceToNat,i1,hr2,hr5,hr6,i7,hr8,Zj2,i10,hr11,i12,hr13,i14,hr15,hr16,i17,hr18]
        refine sp bm hh (fun _ hh =>?_) (fun _ hh =>?_)
        ·have i24:=j8 r18.1 ([2,0])
         simp only[aF,bY,List.length_cons,List.length_nil,Nat.zero_add,Nat.reduceAdd,List.length_set]at i24
         obtain⟨r25,hr25,hh⟩:=ae hh
         cases hh
         try simp only[aW,seval,-Int.reduceToNat,i1,hr2,hr5,hr6,i7,hr8,Zj2,i10,hr11,i12,hr13,i14,hr15,hr16,i17,hr18,i24,hr25]
        ·cases hh
         try simp only[aW,seval,-Int.reduceToNat,i1,hr2,hr5,hr6,i7,hr8,Zj2,i10,hr11,i12,hr13,i14,hr15,hr16,i17,hr18]
       ·cases hh
        try simp only[aW,seval,-Int.reduceToNat,i1,hr2,hr5,hr6,i7,hr8,Zj2,i10,hr11,i12,hr13,i14,hr15,hr16,i17,hr18]
      ·cases hh
       try simp only[aW,seval,-Int.reduceToNat,i1,hr2,hr5,hr6,i7,hr8,Zj2,i10,hr11,i12,hr13,i14,hr15,hr16,i17,hr18]
     ·cases hh
      try simp only[aW,seval,-Int.reduceToNat,i1,hr2,hr5,hr6,i7,hr8,Zj2,i10,hr11,i12,hr13,i14,hr15,hr16,i17,hr18]
    ·cases hh
     try simp only[aW,seval,-Int.reduceToNat,i1,hr2,hr5,hr6,i7,hr8,Zj2,i10,hr11,i12,hr13,i14,hr15,hr16,i17,hr18]
   ·clear hh
    have hh:=ho9
    try simp only[aW,seval,-Int.reduceToNat,i1,hr2,Zj1,hr5,hr6,i7,hr8]
    refine sp bm hh (fun _ hh =>?_) (fun _ hh =>?_)
    ·have i27:=kE r2.1.ak ([1,2]) 20 ([]) ([(bt.mk 2 0)])
     simp only[aF,bY,List.length_cons,List.length_nil,Nat.zero_add,Nat.reduceAdd,List.length_set]at i27
     obtain⟨r28,hr28,hh⟩:=ae hh
     try simp only[aW,seval,-Int.reduceToNat,i1,hr2,Zj1,hr5,hr6,i7,hr8,i27,hr28]
     refine sp bm hh (fun _ hh =>?_) (fun _ hh =>?_)
     ·have i30:=kE r2.1.ak ([1]) 21 ([]) ([(bt.mk 1 1)])
      simp only[aF,bY,List.length_cons,List.length_nil,Nat.zero_add,Nat.reduceAdd,List.length_set]at i30
      obtain⟨r31,hr31,hh⟩:=ae hh
      cases hh
      try simp only[aW,seval,-Int.reduceToNat,i1,hr2,Zj1,hr5,hr6,i7,hr8,i27,hr28,i30,hr31]
      rw[al]
      refine⟨_,rfl,?_⟩
      refine⟨v1j1,e,e+1,?_,?_,?_,?_,?_,?_,?_,?_⟩
      all_goals first|rfl|(simp only[aW,seval,-Int.reduceToNat,i1,hr2,Zj1,hr5,hr6,i7,hr8,i27,hr28,i30,hr31]<;>rfl)
     ·cases hh
      try simp only[aW,seval,-Int.reduceToNat,i1,hr2,Zj1,hr5,hr6,i7,hr8,i27,hr28]
      rw[al]
      refine⟨_,rfl,?_⟩
      refine⟨v1j1,e,e+1,?_,?_,?_,?_,?_,?_,?_,?_⟩
      all_goals first|rfl|(simp only[aW,seval,-Int.reduceToNat,i1,hr2,Zj1,hr5,hr6,i7,hr8,i27,hr28]<;>rfl)
    ·cases hh
     try simp only[aW,seval,-Int.reduceToNat,i1,hr2,Zj1,hr5,hr6,i7,hr8]
     rw[al]
     refine⟨_,rfl,?_⟩
     refine⟨v1j1,e,e+1,?_,?_,?_,?_,?_,?_,?_,?_⟩
     all_goals first|rfl|(simp only[aW,seval,-Int.reduceToNat,i1,hr2,Zj1,hr5,hr6,i7,hr8]<;>rfl)
 ·clear hh
  have hh:=ho3
  try simp only[aW,seval,-Int.reduceToNat,i1,hr2]
  refine sp aP hh (fun _ hh =>?_) (fun _ hh =>?_)
  ·cases hh
   try simp only[aW,seval,-Int.reduceToNat,i1,hr2]
   rw[al]
   refine⟨_,rfl,?_⟩
   refine⟨1,?_,?_,?_,?_⟩
   all_goals first|rfl|(simp only[aW,seval,-Int.reduceToNat,i1,hr2]<;>rfl)
  ·try simp only[aW,seval,-Int.reduceToNat,i1,hr2]
   refine sp aP hh (fun _ hh =>?_) (fun _ hh =>?_)
   ·cases hh
    try simp only[aW,seval,-Int.reduceToNat,i1,hr2]
    rw[al]
    refine⟨_,rfl,?_⟩
    refine⟨1,?_,?_,?_,?_⟩
    all_goals first|rfl|(simp only[aW,seval,-Int.reduceToNat,i1,hr2]<;>rfl)
   ·have i34:=j8 r2.2.2.1 ([0,1,2])
    simp only[aF,bY,List.length_cons,List.length_nil,Nat.zero_add,Nat.reduceAdd,List.length_set]at i34
    obtain⟨r35,hr35,hh⟩:=ae hh
    cases hh
    try simp only[aW,seval,-Int.reduceToNat,i1,hr2,i34,hr35]
    rw[al]
    refine⟨_,rfl,?_⟩
    refine⟨1,?_,?_,?_,?_⟩
    all_goals first|rfl|(simp only[aW,seval,-Int.reduceToNat,i1,hr2,i34,hr35]<;>rfl)
theorem F3:bI Tryz.prog 9 qP:=bI.of (mode := .clean) tok Fx mixed Tryz.func9 (by kernel_rfl) ⟨by kernel_rfl,by kernel_rfl⟩ (fun _=>Nat.le_of_ble_eq_true (by kernel_rfl)) (fun x r h=>Iy  r h)
noncomputable def lZ:=ez (dJ (gg (eI .i64))) (fun x:(List Int)=>ig x) (fun r:Bool =>.clean (.bool r))
theorem mv (p0:(List Int)):lZ none [.sl false false p0.length (ab (eI .i64) p0)]=(ig p0).map fun r:Bool=>(.clean (.bool r),none):=aE _ _ _ (p0)
theorem FM (p0:(List Int)) (r:Bool) (hh:ig p0=some r):aQ .clean tab aT FU Tryz.f19 none [.sl false false p0.length (ab (eI .i64) p0)]=some (.clean (.bool r),none):=by
 refine aw rfl Tryz.ntmps19 Tryz.results19 ?_
 unfold ig at hh
 try simp only[w,seval,-Int.reduceToNat]
 refine sp aP hh (fun _ hh =>?_) (fun _ hh =>?_)
 ·cases hh
  try simp only[w,seval,-Int.reduceToNat]
 ·try simp only[w,seval,-Int.reduceToNat]
  refine sp bm hh (fun _ hh =>?_) (fun _ hh =>?_)
  ·cases hh
   try simp only[w,seval,-Int.reduceToNat]
  ·cases hh
   try simp only[w,seval,-Int.reduceToNat]
theorem tE:bI Tryz.prog 19 lZ:=bI.of (mode := .clean) tok bM.none mixed Tryz.func19 (by kernel_rfl) ⟨by kernel_rfl,by kernel_rfl⟩ (fun _=>Nat.le_of_ble_eq_true (by kernel_rfl)) (fun x r h=>FM x r h)
noncomputable def wH:=ez (dJ (gg (jv (eI .i64)))) (fun x:(List (List Int))=>pU x) (fun r:Bool =>.clean (.bool r))
theorem EB (p0:(List (List Int))):wH none [.sl false false p0.length (ab (jv (eI .i64)) p0)]=(pU p0).map fun r:Bool=>(.clean (.bool r),none):=aE _ _ _ (p0)
noncomputable def sK:Env:=(Am.ext aT 19 false lZ)
theorem Kv:bM Tryz.prog sK:=(bM.none.add tE false)
theorem cz:type_of% (ai @w<|ai @mv<|@sK.eq_1):=⟨@w,@mv,@sK.eq_1⟩
theorem NT (p0:(List (List Int))) (r:Bool) (hh:pU p0=some r):aQ .clean tab sK FU Tryz.f12 none [.sl false false p0.length (ab (jv (eI .i64)) p0)]=some (.clean (.bool r),none):=by
 refine aw rfl Tryz.ntmps12 Tryz.results12 ?_
 unfold pU at hh
 try simp only[cz,seval,-Int.reduceToNat]
 obtain⟨o7,ho7,hh⟩:=ae hh
 refine ax (fun s t H e=>match s with|s3a=>t 0=.sl false false p0.length (ab (jv (eI .i64)) p0)∧t 3=.int .i64 s3a) (fun o x t H e=>match o with|(.inl _)=>x=.exit 0∧t 0=.sl false false p0.length (ab (jv (eI .i64)) p0)|(.inr r)=>x=.ret∧fw .clean tab none [.tmp 2] ⟨t,H,e⟩=some (.clean (.bool r),none)) ho7 ?_ ?_ ?_
 ·refine⟨?_,?_⟩
  all_goals first|rfl|(simp only[cz,seval,-Int.reduceToNat]<;>rfl)
 ·rintro s3a t H e Za c hh
  simp only[pV]at hh
  try simp only[cz,seval,-Int.reduceToNat,Za]
  obtain⟨o8,ho8,hh⟩:=ae hh
  refine bG 0 (fun s t H e=>match s with|s11j3=>t 0=.sl false false p0.length (ab (jv (eI .i64)) p0)∧t 3=.int .i64 s3a∧t 11=.bool s11j3) (fun s=>s=o8) ?_ ?_
  ·rintro s11j3 t H e Zj3 rfl
   try dsimp only at hh
   try simp only[cz,seval,-Int.reduceToNat,Zj3]
   refine sp aj hh (fun _ hh =>?_) (fun _ hh =>?_)
   ·obtain⟨x10,hx10,hh⟩:=ae hh
    have ax10:=bT (jv (eI .i64)) hx10
    simp only[bY]at ax10
    obtain⟨r11,hr11,hh⟩:=ae hh
    try simp only[cz,seval,-Int.reduceToNat,Zj3,ax10,hr11]
    refine sp aj hh (fun _ hh =>?_) (fun _ hh =>?_)
    ·cases hh
     try simp only[cz,seval,-Int.reduceToNat,Zj3,ax10,hr11]
     refine wq ⟨rfl,?_⟩
     try simp only[cz,seval,-Int.reduceToNat,Zj3,ax10,hr11]
    ·cases hh
     try simp only[cz,seval,-Int.reduceToNat,Zj3,ax10,hr11]
     refine jg ?_
     refine⟨?_,?_⟩
     all_goals first|rfl|(simp only[cz,seval,-Int.reduceToNat,Zj3,ax10,hr11]<;>rfl)
   ·cases hh
    try simp only[cz,seval,-Int.reduceToNat,Zj3]
    refine kl ?_
    refine⟨rfl,?_⟩
    all_goals first|rfl|(simp only[cz,seval,-Int.reduceToNat,Zj3]<;>rfl)
  ·clear hh
   have hh:=ho8
   try simp only[cz,seval,-Int.reduceToNat,Za]
   refine sp bm hh (fun _ hh =>?_) (fun _ hh =>?_)
   ·cases hh
    try simp only[cz,seval,-Int.reduceToNat,Za]
    rw[al]
    refine⟨_,rfl,?_⟩
    refine⟨?_,?_,?_⟩
    all_goals first|rfl|(simp only[cz,seval,-Int.reduceToNat,Za]<;>rfl)
   ·cases hh
    try simp only[cz,seval,-Int.reduceToNat,Za]
    rw[al]
    refine⟨_,rfl,?_⟩
    refine⟨?_,?_,?_⟩
    all_goals first|rfl|(simp only[cz,seval,-Int.reduceToNat,Za]<;>rfl)
 ·rintro x t H e hx
  rcases o7 with _|ra
  ·dsimp only at hx hh
   obtain⟨rfl,Zax⟩:=hx
   try simp only[cz,seval,-Int.reduceToNat,Zax]
   refine sp aP hh (fun _ hh =>?_) (fun _ hh =>?_)
   ·cases hh
    try simp only[cz,seval,-Int.reduceToNat,Zax]
   ·try simp only[cz,seval,-Int.reduceToNat,Zax]
    refine sp bm hh (fun _ hh =>?_) (fun _ hh =>?_)
    ·cases hh
     try simp only[cz,seval,-Int.reduceToNat,Zax]
    ·cases hh
     try simp only[cz,seval,-Int.reduceToNat,Zax]
  ·dsimp only at hx hh
   obtain⟨rfl,hE⟩:=hx
   cases hh
   try simp only[aZ,aR,bc,cu,cr]
   exact hE
theorem KY:bI Tryz.prog 12 wH:=bI.of (mode := .clean) tok Kv mixed Tryz.func12 (by kernel_rfl) ⟨by kernel_rfl,by kernel_rfl⟩ (fun _=>Nat.le_of_ble_eq_true (by kernel_rfl)) (fun x r h=>NT x r h)
noncomputable def qR:=ez (dJ (gg (eI .i64))) (fun x:(List Int)=>jz x) (fun r:Bool =>.clean (.bool r))
theorem ye (p0:(List Int)):qR none [.sl false false p0.length (ab (eI .i64) p0)]=(jz p0).map fun r:Bool=>(.clean (.bool r),none):=aE _ _ _ (p0)
theorem ID (p0:(List Int)) (r:Bool) (hh:jz p0=some r):aQ .clean tab aT FU Tryz.f22 none [.sl false false p0.length (ab (eI .i64) p0)]=some (.clean (.bool r),none):=by
 refine aw rfl Tryz.ntmps22 Tryz.results22 ?_
 unfold jz at hh
 try simp only[w,seval,-Int.reduceToNat]
 obtain⟨o11,ho11,hh⟩:=ae hh
 refine ax (fun s t H e=>match s with|s3a=>t 0=.sl false false p0.length (ab (eI .i64) p0)∧t 3=.int .i64 s3a) (fun o x t H e=>match o with|(.inl _)=>x=.exit 0|(.inr r)=>x=.ret∧fw .clean tab none [.tmp 2] ⟨t,H,e⟩=some (.clean (.bool r),none)) ho11 ?_ ?_ ?_
 ·refine⟨?_,?_⟩
  all_goals first|rfl|(simp only[w,seval,-Int.reduceToNat]<;>rfl)
 ·rintro s3a t H e Za c hh
  simp only[ka]at hh
  try simp only[w,seval,-Int.reduceToNat,Za]
  refine sp aj hh (fun _ hh =>?_) (fun _ hh =>?_)
  ·try simp only[w,seval,-Int.reduceToNat,Za]
   obtain⟨o17,ho17,hh⟩:=ae hh
   refine ax (fun s t H e=>match s with|s4c=>t 0=.sl false false p0.length (ab (eI .i64) p0)∧t 3=.int .i64 s3a∧t 4=.int .i64 s4c) (fun o x t H e=>match o with|(.inl _)=>x=.exit 2∧t 0=.sl false false p0.length (ab (eI .i64) p0)∧t 3=.int .i64 s3a|(.inr r)=>x=.ret∧fw .clean tab none [.tmp 2] ⟨t,H,e⟩=some (.clean (.bool r),none)) ho17 ?_ ?_ ?_
   ·refine⟨?_,?_,?_⟩
    all_goals first|rfl|(simp only[w,seval,-Int.reduceToNat,Za]<;>rfl)
   ·rintro s4c t H e Zc c hh
    simp only[iC]at hh
    try simp only[w,seval,-Int.reduceToNat,Zc]
    refine sp aj hh (fun _ hh =>?_) (fun _ hh =>?_)
    ·obtain⟨x19,hx19,hh⟩:=ae hh
     have ax19:=bT (eI .i64) hx19
     simp only[bY]at ax19
     obtain⟨x20,hx20,hh⟩:=ae hh
     have ax20:=bT (eI .i64) hx20
     simp only[bY]at ax20
     try simp only[w,seval,-Int.reduceToNat,Zc,ax19,ax20]
     refine b6 (by kernel_rfl) ?_
     try simp only[w,seval,-Int.reduceToNat,Zc,ax19,ax20]
     refine sp aj hh (fun _ hh =>?_) (fun _ hh =>?_)
     ·cases hh
      try simp only[w,seval,-Int.reduceToNat,Zc,ax19,ax20]
      refine wq ⟨rfl,?_⟩
      try simp only[w,seval,-Int.reduceToNat,Zc,ax19,ax20]
     ·cases hh
      try simp only[w,seval,-Int.reduceToNat,Zc,ax19,ax20]
      refine jg ?_
      refine⟨?_,?_,?_⟩
      all_goals first|rfl|(simp only[w,seval,-Int.reduceToNat,Zc,ax19,ax20]<;>rfl)
    ·cases hh
     try simp only[w,seval,-Int.reduceToNat,Zc]
     refine kl ?_
     refine⟨rfl,⟨?_,?_⟩⟩
     all_goals first|rfl|(simp only[w,seval,-Int.reduceToNat,Zc]<;>rfl)
   ·rintro x t H e hx
    rcases o17 with _|rc
    ·dsimp only at hx hh
     obtain⟨rfl,Zcx⟩:=hx
     cases hh
     try simp only[w,seval,-Int.reduceToNat,Zcx]
     refine jg ?_
     refine⟨?_,?_⟩
     all_goals first|rfl|(simp only[w,seval,-Int.reduceToNat,Zcx]<;>rfl)
    ·dsimp only at hx hh
     obtain⟨rfl,hE⟩:=hx
     cases hh
     try simp only[aZ,aR,bc,cu,cr]
     refine wq ?_
     first|exact⟨rfl,hE⟩|(simp only[w,seval,-Int.reduceToNat]at hE;exact⟨rfl,hE⟩)
  ·cases hh
   try simp only[w,seval,-Int.reduceToNat,Za]
   refine kl ?_
   exact rfl
 ·rintro x t H e hx
  rcases o11 with _|ra
  ·dsimp only at hx hh
   subst hx
   cases hh
   try simp only[w,seval,-Int.reduceToNat]
  ·dsimp only at hx hh
   obtain⟨rfl,hE⟩:=hx
   cases hh
   try simp only[aZ,aR,bc,cu,cr]
   exact hE
theorem F5:bI Tryz.prog 22 qR:=bI.of (mode := .clean) tok bM.none mixed Tryz.func22 (by kernel_rfl) ⟨by kernel_rfl,by kernel_rfl⟩ (fun _=>Nat.le_of_ble_eq_true (by kernel_rfl)) (fun x r h=>ID x r h)
noncomputable def mL:=ez (dX (gg (eI .i64)) (dJ (gg (eI .i64)))) (fun x:(List Int)×(List Int)=>fi x.1 x.2) (fun r:Bool =>.clean (.bool r))
theorem sb (p0:(List Int)) (p1:(List Int)):mL none [.sl false false p0.length (ab (eI .i64) p0),.sl false false p1.length (ab (eI .i64) p1)]=(fi p0 p1).map fun r:Bool=>(.clean (.bool r),none):=aE _ _ _ (p0,p1)
theorem A7 (p0:(List Int)) (p1:(List Int)) (r:Bool) (hh:fi p0 p1=some r):aQ .clean tab aT FU Tryz.f24 none [.sl false false p0.length (ab (eI .i64) p0),.sl false false p1.length (ab (eI .i64) p1)]=some (.clean (.bool r),none):=by
 refine aw rfl Tryz.ntmps24 Tryz.results24 ?_
 unfold fi at hh
 try simp only[w,seval,-Int.reduceToNat]
 refine sp aj hh (fun _ hh =>?_) (fun _ hh =>?_)
 ·cases hh
  try simp only[w,seval,-Int.reduceToNat]
 ·try simp only[w,seval,-Int.reduceToNat]
  obtain⟨o6,ho6,hh⟩:=ae hh
  refine ax (fun s t H e=>match s with|s5a=>t 0=.sl false false p0.length (ab (eI .i64) p0)∧t 1=.sl false false p1.length (ab (eI .i64) p1)∧t 5=.int .i64 s5a) (fun o x t H e=>match o with|(.inl _)=>x=.exit 0|(.inr r)=>x=.ret∧fw .clean tab none [.tmp 4] ⟨t,H,e⟩=some (.clean (.bool r),none)) ho6 ?_ ?_ ?_
  ·refine⟨?_,?_,?_⟩
   all_goals first|rfl|(simp only[w,seval,-Int.reduceToNat]<;>rfl)
  ·rintro s5a t H e Za c hh
   simp only[gA]at hh
   try simp only[w,seval,-Int.reduceToNat,Za]
   refine sp aj hh (fun _ hh =>?_) (fun _ hh =>?_)
   ·obtain⟨x8,hx8,hh⟩:=ae hh
    have ax8:=bT (eI .i64) hx8
    simp only[bY]at ax8
    obtain⟨x9,hx9,hh⟩:=ae hh
    have ax9:=bT (eI .i64) hx9
    simp only[bY]at ax9
    try simp only[w,seval,-Int.reduceToNat,Za,ax8,ax9]
    refine b6 (by kernel_rfl) ?_
    try simp only[w,seval,-Int.reduceToNat,Za,ax8,ax9]
    refine sp aj hh (fun _ hh =>?_) (fun _ hh =>?_)
    ·cases hh
     try simp only[w,seval,-Int.reduceToNat,Za,ax8,ax9]
     refine wq ⟨rfl,?_⟩
     try simp only[w,seval,-Int.reduceToNat,Za,ax8,ax9]
    ·cases hh
     try simp only[w,seval,-Int.reduceToNat,Za,ax8,ax9]
     refine jg ?_
     refine⟨?_,?_,?_⟩
     all_goals first|rfl|(simp only[w,seval,-Int.reduceToNat,Za,ax8,ax9]<;>rfl)
   ·cases hh
    try simp only[w,seval,-Int.reduceToNat,Za]
    refine kl ?_
    exact rfl
  ·rintro x t H e hx
   rcases o6 with _|ra
   ·dsimp only at hx hh
    subst hx
    cases hh
    try simp only[w,seval,-Int.reduceToNat]
   ·dsimp only at hx hh
    obtain⟨rfl,hE⟩:=hx
    cases hh
    try simp only[aZ,aR,bc,cu,cr]
    exact hE
theorem yU:bI Tryz.prog 24 mL:=bI.of (mode := .clean) tok bM.none mixed Tryz.func24 (by kernel_rfl) ⟨by kernel_rfl,by kernel_rfl⟩ (fun _=>Nat.le_of_ble_eq_true (by kernel_rfl)) (fun x r h=>A7 x.1 x.2 r h)
noncomputable def wB:=ez (dX (gg (jv (eI .i64))) (dX (gg (eI .i64)) (dX (aI .i64) (dJ (gg (eI .i64)))))) (fun x:(List (List Int))×(List Int)×Int×(List Int)=>ef x.1 x.2.1 x.2.2.1 x.2.2.2) (fun r:Bool =>.clean (.bool r))
noncomputable def iy:Env:=(Am.keep 54 (Am.ext (Am.ext (Am.ext (Am.ext (Am.ext (Am.ext (Am.ext (Am.ext (Am.ext aT 9 false qP) 12 false wH) 15 false kK) 19 false lZ) 20 false l4) 21 false ln) 22 false qR) 23 false jN) 24 false mL))
theorem vu:bM Tryz.prog iy:=(bM.keep (((((((((bM.none.add F3 false).add KY false).add rO false).add tE false).add tG false).add pP false).add F5 false).add oz false).add yU false) 54)
theorem ag:type_of% (ai @w<|ai @yd<|ai @EB<|ai @iQ<|ai @mv<|ai @my<|ai @ib<|ai @ye<|ai @iB<|ai @sb<|@iy.eq_1):=⟨@w,@yd,@EB,@iQ,@mv,@my,@ib,@ye,@iB,@sb,@iy.eq_1⟩
theorem w7 (p0:(List (List Int))) (p1:(List Int)) (p2:Int) (p3:(List Int)) (r:Bool) (hh:ef p0 p1 p2 p3=some r):aQ .clean tab iy FU Tryz.f4 none [.sl false false p0.length (ab (jv (eI .i64)) p0),.sl false false p1.length (ab (eI .i64) p1),.int .i64 p2,.sl false false p3.length (ab (eI .i64) p3)]=some (.clean (.bool r),none):=by
 refine aw rfl Tryz.ntmps4 Tryz.results4 ?_
 unfold ef at hh
 obtain⟨r1,hr1,hh⟩:=ae hh
 obtain⟨r2,hr2,hh⟩:=ae hh
 try simp only[ag,seval,-Int.reduceToNat,hr1,hr2]
 obtain⟨o3,ho3,hh⟩:=ae hh
 refine bG 0 (fun s t H e=>match s with|s52j1=>t 0=.sl false false p0.length (ab (jv (eI .i64)) p0)∧t 1=.sl false false p1.length (ab (eI .i64) p1)∧t 2=.int .i64 p2∧t 3=.sl false false p3.length (ab (eI .i64) p3)∧t 9=.bool r1∧t 52=.bool s52j1) (fun s=>s=o3) ?_ ?_
 ·rintro s52j1 t H e Zj1 rfl
  try dsimp only at hh
  try simp only[ag,seval,-Int.reduceToNat,hr1,hr2,Zj1]
  refine sp aj hh (fun _ hh =>?_) (fun _ hh =>?_)
  ·cases hh
   try simp only[ag,seval,-Int.reduceToNat,hr1,hr2,Zj1]
  ·try simp only[ag,seval,-Int.reduceToNat,hr1,hr2,Zj1]
   obtain⟨o14,ho14,hh⟩:=ae hh
   refine ax (fun s t H e=>match s with|(s13b,r10_0b,l11b,l12b)=>∃v10b:Nat,∃v11b:Nat,∃v12b:Nat,t 0=.sl false false p0.length (ab (jv (eI .i64)) p0)∧t 1=.sl false false p1.length (ab (eI .i64) p1)∧t 2=.int .i64 p2∧t 3=.sl false false p3.length (ab (eI .i64) p3)∧t 9=.bool r1∧t 10=.ptr 10 v10b 0∧t 11=.buf 11 v11b 1 0 (l11b).length∧t 12=.buf 12 v12b 1 0 (l12b).length∧t 13=.int .i64 s13b∧H 10=some ⟨v10b,24,[.sl false false r10_0b.length (ab aq r10_0b)],false,false,false⟩∧H 11=some ⟨v11b,3,ab (eI .i64) l11b,false,true,false⟩∧H 12=some ⟨v12b,3,ab (eI .i64) l12b,false,true,false⟩) (fun o x t H e=>match o with|(.inl (r10_0bx,l11bx,l12bx))=>x=.exit 0∧∃v10bx:Nat,∃v11bx:Nat,∃v12bx:Nat,t 0=.sl false false p0.length (ab (jv (eI .i64)) p0)∧t 1=.sl false false p1.length (ab (eI .i64) p1)∧t 2=.int .i64 p2∧t 3=.sl false false p3.length (ab (eI .i64) p3)∧t 9=.bool r1∧t 10=.ptr 10 v10bx 0∧t 11=.buf 11 v11bx 1 0 (l11bx).length∧t 12=.buf 12 v12bx 1 0 (l12bx).length∧H 10=some ⟨v10bx,24,[.sl false false r10_0bx.length (ab aq r10_0bx)],false,false,false⟩∧H 11=some ⟨v11bx,3,ab (eI .i64) l11bx,false,true,false⟩∧H 12=some ⟨v12bx,3,ab (eI .i64) l12bx,false,true,false⟩|(.inr r)=>x=.ret∧fw .clean tab none [.tmp 8] ⟨t,H,e⟩=some (.clean (.bool r),none)) ho14 ?_ ?_ ?_
   ·refine⟨e,e+1,e+1+1,?_,?_,?_,?_,?_,?_,?_,?_,?_,?_,?_,?_⟩
    all_goals first|rfl|(simp only[ag,seval,-Int.reduceToNat,hr1,hr2,Zj1]<;>rfl)
   ·rintro⟨s13b,r10_0b,l11b,l12b⟩ t H e ⟨v10b,v11b,v12b,Zb⟩ c hh
    simp only[ep]at hh
    try simp only[ag,seval,-Int.reduceToNat,hr1,hr2,Zb]
    refine sp aj hh (fun _ hh =>?_) (fun _ hh =>?_)
    ·obtain⟨x16,hx16,hh⟩:=ae hh
     have ax16:=bT (jv (eI .i64)) hx16
     simp only[bY]at ax16
     obtain⟨r17,hr17,hh⟩:=ae hh
     obtain⟨r18,hr18,hh⟩:=ae hh
     try simp only[ag,seval,-Int.reduceToNat,hr1,hr2,Zb,ax16,hr17,hr18]
     refine b6 (by kernel_rfl) ?_
     try simp only[ag,seval,-Int.reduceToNat,hr1,hr2,Zb,ax16,hr17,hr18]
     refine sp aj hh (fun _ hh =>?_) (fun _ hh =>?_)
     ·cases hh
      try simp only[ag,seval,-Int.reduceToNat,hr1,hr2,Zb,ax16,hr17,hr18]
      refine wq ⟨rfl,?_⟩
      try simp only[ag,seval,-Int.reduceToNat,hr1,hr2,Zb,ax16,hr17,hr18]
     ·obtain⟨x20,hx20,hh⟩:=ae hh
      obtain⟨q21a,q21b,q21c,q21d⟩:=eo (eI .i64) hx20
      simp only[bY]at q21b
      obtain⟨x22,hx22,hh⟩:=ae hh
      obtain⟨q23a,q23b,q23c,q23d⟩:=eo (eI .i64) hx22
      simp only[bY]at q23b
      cases hh
      try simp only[ag,seval,-Int.reduceToNat,hr1,hr2,Zb,ax16,hr17,hr18,q21a,q21b,q21c,q21d,q23a,q23b,q23c,q23d]
      refine jg ?_
      refine⟨v10b,e+1+1+1+1,e+1+1+1+1+1,?_,?_,?_,?_,?_,?_,?_,?_,?_,?_,?_,?_⟩
      all_goals first|rfl|(simp only[ag,seval,-Int.reduceToNat,hr1,hr2,Zb,ax16,hr17,hr18,q21a,q21b,q21c,q21d,q23a,q23b,q23c,q23d]<;>rfl)
    ·cases hh
     try simp only[ag,seval,-Int.reduceToNat,hr1,hr2,Zb]
     refine kl ?_
     refine⟨rfl,⟨v10b,v11b,v12b,?_,?_,?_,?_,?_,?_,?_,?_,?_,?_,?_⟩⟩
     all_goals first|rfl|(simp only[ag,seval,-Int.reduceToNat,hr1,hr2,Zb]<;>rfl)
   ·rintro x t H e hx
    rcases o14 with⟨r10_0bx,l11bx,l12bx⟩|rb
    ·dsimp only at hx hh
     obtain⟨rfl,⟨v10bx,v11bx,v12bx,Zbx⟩⟩:=hx
     obtain⟨r24,hr24,hh⟩:=ae hh
     try simp only[ag,seval,-Int.reduceToNat,hr1,hr2,Zbx,hr24]
     refine sp aj hh (fun _ hh =>?_) (fun _ hh =>?_)
     ·try simp only[ag,seval,-Int.reduceToNat,hr1,hr2,Zbx,hr24]
      obtain⟨o26,ho26,hh⟩:=ae hh
      refine bG 0 (fun s t H e=>match s with|s8j3=>t 8=.bool s8j3) (fun s=>s=o26) ?_ ?_
      ·rintro s8j3 t H e Zj3 rfl
       try dsimp only at hh
       cases hh
       try simp only[ag,seval,-Int.reduceToNat,hr1,hr2,hr24,Zj3]
      ·clear hh
       have hh:=ho26
       try simp only[ag,seval,-Int.reduceToNat,hr1,hr2,Zbx,hr24]
       refine sp bm hh (fun _ hh =>?_) (fun _ hh =>?_)
       ·cases hh
        try simp only[ag,seval,-Int.reduceToNat,hr1,hr2,Zbx,hr24]
        rw[al]
        refine⟨_,rfl,?_⟩
        refine ?_
        all_goals first|rfl|(simp only[ag,seval,-Int.reduceToNat,hr1,hr2,Zbx,hr24]<;>rfl)
       ·cases hh
        try simp only[ag,seval,-Int.reduceToNat,hr1,hr2,Zbx,hr24]
        rw[al]
        refine⟨_,rfl,?_⟩
        refine ?_
        all_goals first|rfl|(simp only[ag,seval,-Int.reduceToNat,hr1,hr2,Zbx,hr24]<;>rfl)
     ·try simp only[ag,seval,-Int.reduceToNat,hr1,hr2,Zbx,hr24]
      obtain⟨o28,ho28,hh⟩:=ae hh
      refine bG 0 (fun s t H e=>match s with|s115j4=>∃v10j4:Nat,∃v11j4:Nat,∃v12j4:Nat,t 0=.sl false false p0.length (ab (jv (eI .i64)) p0)∧t 1=.sl false false p1.length (ab (eI .i64) p1)∧t 2=.int .i64 p2∧t 3=.sl false false p3.length (ab (eI .i64) p3)∧t 9=.bool r1∧t 10=.ptr 10 v10j4 0∧t 11=.buf 11 v11j4 1 0 (l11bx).length∧t 12=.buf 12 v12j4 1 0 (l12bx).length∧t 17=.int .i64 (IntKind.i64.wrap ((p0.length:Int)-1))∧t 18=.sl false false r24.1.length (ab (eI .i64) r24.1)∧t 115=.bool s115j4∧H 10=some ⟨v10j4,24,[.sl false false r10_0bx.length (ab aq r10_0bx)],false,false,false⟩∧H 11=some ⟨v11j4,3,ab (eI .i64) l11bx,true,true,false⟩∧H 12=some ⟨v12j4,3,ab (eI .i64) l12bx,true,true,false⟩) (fun s=>s=o28) ?_ ?_
      ·rintro s115j4 t H e ⟨v10j4,v11j4,v12j4,Zj4⟩ rfl
       try dsimp only at hh
       try simp only[ag,seval,-Int.reduceToNat,hr1,hr2,hr24,Zj4]
       refine sp aj hh (fun _ hh =>?_) (fun _ hh =>?_)
       ·cases hh
        try simp only[ag,seval,-Int.reduceToNat,hr1,hr2,hr24,Zj4]
       ·try simp only[ag,seval,-Int.reduceToNat,hr1,hr2,hr24,Zj4]
        obtain⟨o41,ho41,hh⟩:=ae hh
        refine ax (fun s t H e=>match s with|s20e=>∃v10e:Nat,∃v11e:Nat,∃v12e:Nat,t 0=.sl false false p0.length (ab (jv (eI .i64)) p0)∧t 1=.sl false false p1.length (ab (eI .i64) p1)∧t 2=.int .i64 p2∧t 3=.sl false false p3.length (ab (eI .i64) p3)∧t 9=.bool r1∧t 10=.ptr 10 v10e 0∧t 11=.buf 11 v11e 1 0 (l11bx).length∧t 12=.buf 12 v12e 1 0 (l12bx).length∧t 17=.int .i64 (IntKind.i64.wrap ((p0.length:Int)-1))∧t 18=.sl false false r24.1.length (ab (eI .i64) r24.1)∧t 20=.int .i64 s20e∧H 10=some ⟨v10e,24,[.sl false false r10_0bx.length (ab aq r10_0bx)],false,false,false⟩∧H 11=some ⟨v11e,3,ab (eI .i64) l11bx,true,true,false⟩∧H 12=some ⟨v12e,3,ab (eI .i64) l12bx,true,true,false⟩) (fun o x t H e=>match o with|(.inl _)=>x=.exit 2∧∃v10ex:Nat,∃v11ex:Nat,∃v12ex:Nat,t 0=.sl false false p0.length (ab (jv (eI .i64)) p0)∧t 1=.sl false false p1.length (ab (eI .i64) p1)∧t 2=.int .i64 p2∧t 3=.sl false false p3.length (ab (eI .i64) p3)∧t 9=.bool r1∧t 10=.ptr 10 v10ex 0∧t 11=.buf 11 v11ex 1 0 (l11bx).length∧t 12=.buf 12 v12ex 1 0 (l12bx).length∧t 17=.int .i64 (IntKind.i64.wrap ((p0.length:Int)-1))∧t 18=.sl false false r24.1.length (ab (eI .i64) r24.1)∧H 10=some ⟨v10ex,24,[.sl false false r10_0bx.length (ab aq r10_0bx)],false,false,false⟩∧H 11=some ⟨v11ex,3,ab (eI .i64) l11bx,true,true,false⟩∧H 12=some ⟨v12ex,3,ab (eI .i64) l12bx,true,true,false⟩|(.inr r)=>x=.ret∧fw .clean tab none [.tmp 8] ⟨t,H,e⟩=some (.clean (.bool r),none)) ho41 ?_ ?_ ?_
        ·refine⟨v10j4,v11j4,v12j4,?_,?_,?_,?_,?_,?_,?_,?_,?_,?_,?_,?_,?_,?_⟩
         all_goals first|rfl|(simp only[ag,seval,-Int.reduceToNat,hr1,hr2,hr24,Zj4]<;>rfl)
        ·rintro s20e t H e ⟨v10e,v11e,v12e,Ze⟩ c hh
         simp only[er]at hh
         try simp only[ag,seval,-Int.reduceToNat,hr1,hr2,hr24,Ze]
         refine sp aj hh (fun _ hh =>?_) (fun _ hh =>?_)
         ·try simp only[ag,seval,-Int.reduceToNat,hr1,hr2,hr24,Ze]
          obtain⟨o47,ho47,hh⟩:=ae hh
          refine ax (fun s t H e=>match s with|(s21g,s22g)=>∃v10g:Nat,∃v11g:Nat,∃v12g:Nat,t 0=.sl false false p0.length (ab (jv (eI .i64)) p0)∧t 1=.sl false false p1.length (ab (eI .i64) p1)∧t 2=.int .i64 p2∧t 3=.sl false false p3.length (ab (eI .i64) p3)∧t 9=.bool r1∧t 10=.ptr 10 v10g 0∧t 11=.buf 11 v11g 1 0 (l11bx).length∧t 12=.buf 12 v12g 1 0 (l12bx).length∧t 17=.int .i64 (IntKind.i64.wrap ((p0.length:Int)-1))∧t 18=.sl false false r24.1.length (ab (eI .i64) r24.1)∧t 20=.int .i64 s20e∧t 21=.bool s21g∧t 22=.int .i64 s22g∧H 10=some ⟨v10g,24,[.sl false false r10_0bx.length (ab aq r10_0bx)],false,false,false⟩∧H 11=some ⟨v11g,3,ab (eI .i64) l11bx,true,true,false⟩∧H 12=some ⟨v12g,3,ab (eI .i64) l12bx,true,true,false⟩) (fun o x t H e=>match o with|s21gx=>x=.exit 4∧∃v10gx:Nat,∃v11gx:Nat,∃v12gx:Nat,t 0=.sl false false p0.length (ab (jv (eI .i64)) p0)∧t 1=.sl false false p1.length (ab (eI .i64) p1)∧t 2=.int .i64 p2∧t 3=.sl false false p3.length (ab (eI .i64) p3)∧t 9=.bool r1∧t 10=.ptr 10 v10gx 0∧t 11=.buf 11 v11gx 1 0 (l11bx).length∧t 12=.buf 12 v12gx 1 0 (l12bx).length∧t 17=.int .i64 (IntKind.i64.wrap ((p0.length:Int)-1))∧t 18=.sl false false r24.1.length (ab (eI .i64) r24.1)∧t 20=.int .i64 s20e∧t 21=.bool s21gx∧H 10=some ⟨v10gx,24,[.sl false false r10_0bx.length (ab aq r10_0bx)],false,false,false⟩∧H 11=some ⟨v11gx,3,ab (eI .i64) l11bx,true,true,false⟩∧H 12=some ⟨v12gx,3,ab (eI .i64) l12bx,true,true,false⟩) ho47 ?_ ?_ ?_
          ·refine⟨v10e,v11e,v12e,?_,?_,?_,?_,?_,?_,?_,?_,?_,?_,?_,?_,?_,?_,?_,?_⟩
           all_goals first|rfl|(simp only[ag,seval,-Int.reduceToNat,hr1,hr2,hr24,Ze]<;>rfl)
          ·rintro⟨s21g,s22g⟩ t H e ⟨v10g,v11g,v12g,Zg⟩ c hh
           simp only[dA]at hh
           try simp only[ag,seval,-Int.reduceToNat,hr1,hr2,hr24,Zg]
           refine sp aj hh (fun _ hh =>?_) (fun _ hh =>?_)
           ·try simp only[ag,seval,-Int.reduceToNat,hr1,hr2,hr24,Zg]
            refine sp JM hh (fun _ hh =>?_) (fun _ hh =>?_)
            ·try simp only[ag,seval,-Int.reduceToNat,hr1,hr2,hr24,Zg]
             refine b6 (by kernel_rfl) ?_
             cases hh
             try simp only[ag,seval,-Int.reduceToNat,hr1,hr2,hr24,Zg]
             refine jg ?_
             refine⟨v10g,v11g,v12g,?_,?_,?_,?_,?_,?_,?_,?_,?_,?_,?_,?_,?_,?_,?_,?_⟩
             all_goals first|rfl|(simp only[ag,seval,-Int.reduceToNat,hr1,hr2,hr24,Zg]<;>rfl)
            ·obtain⟨x50,hx50,hh⟩:=ae hh
             have ax50:=bT (eI .i64) hx50
             simp only[bY]at ax50
             obtain⟨x51,hx51,hh⟩:=ae hh
             have ax51:=bT (eI .i64) hx51
             simp only[bY]at ax51
             try simp only[ag,seval,-Int.reduceToNat,hr1,hr2,hr24,Zg,ax50,ax51]
             refine b6 (by kernel_rfl) ?_
             cases hh
             try simp only[ag,seval,-Int.reduceToNat,hr1,hr2,hr24,Zg,ax50,ax51]
             refine jg ?_
             refine⟨v10g,v11g,v12g,?_,?_,?_,?_,?_,?_,?_,?_,?_,?_,?_,?_,?_,?_,?_,?_⟩
             all_goals first|rfl|(simp only[ag,seval,-Int.reduceToNat,hr1,hr2,hr24,Zg,ax50,ax51]<;>rfl)
           ·cases hh
            try simp only[ag,seval,-Int.reduceToNat,hr1,hr2,hr24,Zg]
            refine kl ?_
            refine⟨rfl,⟨v10g,v11g,v12g,?_,?_,?_,?_,?_,?_,?_,?_,?_,?_,?_,?_,?_,?_,?_⟩⟩
            all_goals first|rfl|(simp only[ag,seval,-Int.reduceToNat,hr1,hr2,hr24,Zg]<;>rfl)
          ·rintro x t H e hx
           obtain⟨s21gx,rfl⟩:∃z,z=o47:=⟨_,rfl⟩
           dsimp only at hx hh
           obtain⟨rfl,⟨v10gx,v11gx,v12gx,Zgx⟩⟩:=hx
           try simp only[ag,seval,-Int.reduceToNat,hr1,hr2,hr24,Zgx]
           refine sp aj hh (fun _ hh =>?_) (fun _ hh =>?_)
           ·cases hh
            try simp only[ag,seval,-Int.reduceToNat,hr1,hr2,hr24,Zgx]
            refine wq ⟨rfl,?_⟩
            try simp only[ag,seval,-Int.reduceToNat,hr1,hr2,hr24,Zgx]
           ·cases hh
            try simp only[ag,seval,-Int.reduceToNat,hr1,hr2,hr24,Zgx]
            refine jg ?_
            refine⟨v10gx,v11gx,v12gx,?_,?_,?_,?_,?_,?_,?_,?_,?_,?_,?_,?_,?_,?_⟩
            all_goals first|rfl|(simp only[ag,seval,-Int.reduceToNat,hr1,hr2,hr24,Zgx]<;>rfl)
         ·cases hh
          try simp only[ag,seval,-Int.reduceToNat,hr1,hr2,hr24,Ze]
          refine kl ?_
          refine⟨rfl,⟨v10e,v11e,v12e,?_,?_,?_,?_,?_,?_,?_,?_,?_,?_,?_,?_,?_⟩⟩
          all_goals first|rfl|(simp only[ag,seval,-Int.reduceToNat,hr1,hr2,hr24,Ze]<;>rfl)
        ·rintro x t H e hx
         rcases o41 with _|re
         ·dsimp only at hx hh
          obtain⟨rfl,⟨v10ex,v11ex,v12ex,Zex⟩⟩:=hx
          obtain⟨r53,hr53,hh⟩:=ae hh
          try simp only[ag,seval,-Int.reduceToNat,hr1,hr2,hr24,Zex,hr53]
          obtain⟨o54,ho54,hh⟩:=ae hh
          refine bG 0 (fun s t H e=>match s with|s160j8=>∃v10j8:Nat,∃v11j8:Nat,∃v12j8:Nat,t 0=.sl false false p0.length (ab (jv (eI .i64)) p0)∧t 1=.sl false false p1.length (ab (eI .i64) p1)∧t 2=.int .i64 p2∧t 3=.sl false false p3.length (ab (eI .i64) p3)∧t 9=.bool r1∧t 10=.ptr 10 v10j8 0∧t 11=.buf 11 v11j8 1 0 (l11bx).length∧t 12=.buf 12 v12j8 1 0 (l12bx).length∧t 17=.int .i64 (IntKind.i64.wrap ((p0.length:Int)-1))∧t 18=.sl false false r24.1.length (ab (eI .i64) r24.1)∧t 160=.bool s160j8∧H 10=some ⟨v10j8,24,[.sl false false r10_0bx.length (ab aq r10_0bx)],false,false,false⟩∧H 11=some ⟨v11j8,3,ab (eI .i64) l11bx,true,true,false⟩∧H 12=some ⟨v12j8,3,ab (eI .i64) l12bx,true,true,false⟩) (fun s=>s=o54) ?_ ?_
          ·rintro s160j8 t H e ⟨v10j8,v11j8,v12j8,Zj8⟩ rfl
           try dsimp only at hh
           try simp only[ag,seval,-Int.reduceToNat,hr1,hr2,hr24,hr53,Zj8]
           refine sp aj hh (fun _ hh =>?_) (fun _ hh =>?_)
           ·cases hh
            try simp only[ag,seval,-Int.reduceToNat,hr1,hr2,hr24,hr53,Zj8]
           ·obtain⟨r56,hr56,hh⟩:=ae hh
            obtain⟨r57,hr57,hh⟩:=ae hh
            try simp only[ag,seval,-Int.reduceToNat,hr1,hr2,hr24,hr53,Zj8,hr56,hr57]
            refine b6 (by kernel_rfl) ?_
            obtain⟨x58,hx58,hh⟩:=ae hh
            obtain⟨q59a,q59b,q59c,q59d,q59e⟩:=uD (jv (eI .i64)) hx58
            simp only[bY]at q59e
            obtain⟨x60,hx60,hh⟩:=ae hh
            obtain⟨q61a,q61b,q61c⟩:=l6 hx60
            replace q61a:=q61a.symm
            subst q61a
            obtain⟨x62,hx62,hh⟩:=ae hh
            obtain⟨q63a,q63b,q63c,q63d⟩:=eo (jv (eI .i64)) hx62
            simp only[bY]at q63b
            try simp only[ag,seval,-Int.reduceToNat,hr1,hr2,hr24,hr53,Zj8,hr56,hr57,q59a,q59b,q59c,q59d,q59e,q61b,q61c,q63a,q63b,q63c,q63d]
            obtain⟨x64,hx64,hh⟩:=ae hh
            obtain⟨q65a,q65b,q65c,q65d,q65e⟩:=uD (eI .i64) hx64
            simp only[bY]at q65e
            have q65i:=q65c
            have q65j:=q65e
            have q65k:=q65d
            simp only[q59d]at q65i q65j q65k
            have q65m:=Nat.mul_le_mul_right 1 q65c
            obtain⟨x66,hx66,hh⟩:=ae hh
            obtain⟨q67a,q67b,q67c⟩:=l6 hx66
            replace q67a:=q67a.symm
            subst q67a
            obtain⟨x68,hx68,hh⟩:=ae hh
            obtain⟨q69a,q69b,q69c,q69d⟩:=eo (eI .i64) hx68
            simp only[bY]at q69b
            obtain⟨r70,hr70,hh⟩:=ae hh
            try simp only[ag,seval,-Int.reduceToNat,hr1,hr2,hr24,hr53,Zj8,hr56,hr57,q59a,q59b,q59c,q59e,q61b,q61c,q63a,q63b,q63c,q63d,q65a,q65b,q65c,q65e,q65i,q65j,q65k,q65d,q65m,q67b,q67c,q69a,q69b,q69c,q69d,hr70]
            refine b6 (by kernel_rfl) ?_
            try simp only[ag,seval,-Int.reduceToNat,hr1,hr2,hr24,hr53,Zj8,hr56,hr57,q59a,q59b,q59c,q59e,q61b,q61c,q63a,q63b,q63c,q63d,q65a,q65b,q65c,q65e,q65i,q65j,q65k,q65d,q65m,q67b,q67c,q69a,q69b,q69c,q69d,hr70]
            refine sp bm hh (fun _ hh =>?_) (fun _ hh =>?_)
            ·try simp only[ag,seval,-Int.reduceToNat,hr1,hr2,hr24,hr53,Zj8,hr56,hr57,q59a,q59b,q59c,q59e,q61b,q61c,q63a,q63b,q63c,q63d,q65a,q65b,q65c,q65e,q65i,q65j,q65k,q65d,q65m,q67b,q67c,q69a,q69b,q69c,q69d,hr70]
             refine sp bm hh (fun _ hh =>?_) (fun _ hh =>?_)
             ·try simp only[ag,seval,-Int.reduceToNat,hr1,hr2,hr24,hr53,Zj8,hr56,hr57,q59a,q59b,q59c,q59e,q61b,q61c,q63a,q63b,q63c,q63d,q65a,q65b,q65c,q65e,q65i,q65j,q65k,q65d,q65m,q67b,q67c,q69a,q69b,q69c,q69d,hr70]
              refine sp bm hh (fun _ hh =>?_) (fun _ hh =>?_)
              ·try simp only[ag,seval,-Int.reduceToNat,hr1,hr2,hr24,hr53,Zj8,hr56,hr57,q59a,q59b,q59c,q59e,q61b,q61c,q63a,q63b,q63c,q63d,q65a,q65b,q65c,q65e,q65i,q65j,q65k,q65d,q65m,q67b,q67c,q69a,q69b,q69c,q69d,hr70]
               refine sp bm hh (fun _ hh =>?_) (fun _ hh =>?_)
               ·obtain⟨r75,hr75,hh⟩:=ae hh
                cases hh
                try simp only[ag,seval,-Int.reduceToNat,hr1,hr2,hr24,hr53,Zj8,hr56,hr57,q59a,q59b,q59c,q59e,q61b,q61c,q63a,q63b,q63c,q63d,q65a,q65b,q65c,q65e,q65i,q65j,q65k,q65d,q65m,q67b,q67c,q69a,q69b,q69c,q69d,hr70,hr75]
               ·cases hh
                try simp only[ag,seval,-Int.reduceToNat,hr1,hr2,hr24,hr53,Zj8,hr56,hr57,q59a,q59b,q59c,q59e,q61b,q61c,q63a,q63b,q63c,q63d,q65a,q65b,q65c,q65e,q65i,q65j,q65k,q65d,q65m,q67b,q67c,q69a,q69b,q69c,q69d,hr70]
              ·cases hh
               try simp only[ag,seval,-Int.reduceToNat,hr1,hr2,hr24,hr53,Zj8,hr56,hr57,q59a,q59b,q59c,q59e,q61b,q61c,q63a,q63b,q63c,q63d,q65a,q65b,q65c,q65e,q65i,q65j,q65k,q65d,q65m,q67b,q67c,q69a,q69b,q69c,q69d,hr70]
             ·cases hh
              try simp only[ag,seval,-Int.reduceToNat,hr1,hr2,hr24,hr53,Zj8,hr56,hr57,q59a,q59b,q59c,q59e,q61b,q61c,q63a,q63b,q63c,q63d,q65a,q65b,q65c,q65e,q65i,q65j,q65k,q65d,q65m,q67b,q67c,q69a,q69b,q69c,q69d,hr70]
            ·cases hh
             try simp only[ag,seval,-Int.reduceToNat,hr1,hr2,hr24,hr53,Zj8,hr56,hr57,q59a,q59b,q59c,q59e,q61b,q61c,q63a,q63b,q63c,q63d,q65a,q65b,q65c,q65e,q65i,q65j,q65k,q65d,q65m,q67b,q67c,q69a,q69b,q69c,q69d,hr70]
          ·clear hh
           have hh:=ho54
           try simp only[ag,seval,-Int.reduceToNat,hr1,hr2,hr24,Zex,hr53]
           refine sp aP hh (fun _ hh =>?_) (fun _ hh =>?_)
           ·cases hh
            try simp only[ag,seval,-Int.reduceToNat,hr1,hr2,hr24,Zex,hr53]
            rw[al]
            refine⟨_,rfl,?_⟩
            refine⟨v10ex,v11ex,v12ex,?_,?_,?_,?_,?_,?_,?_,?_,?_,?_,?_,?_,?_,?_⟩
            all_goals first|rfl|(simp only[ag,seval,-Int.reduceToNat,hr1,hr2,hr24,Zex,hr53]<;>rfl)
           ·try simp only[ag,seval,-Int.reduceToNat,hr1,hr2,hr24,Zex,hr53]
            refine sp aP hh (fun _ hh =>?_) (fun _ hh =>?_)
            ·cases hh
             try simp only[ag,seval,-Int.reduceToNat,hr1,hr2,hr24,Zex,hr53]
             rw[al]
             refine⟨_,rfl,?_⟩
             refine⟨v10ex,v11ex,v12ex,?_,?_,?_,?_,?_,?_,?_,?_,?_,?_,?_,?_,?_,?_⟩
             all_goals first|rfl|(simp only[ag,seval,-Int.reduceToNat,hr1,hr2,hr24,Zex,hr53]<;>rfl)
            ·obtain⟨x78,hx78,hh⟩:=ae hh
             have ax78:=bT (jv (eI .i64)) hx78
             simp only[bY]at ax78
             obtain⟨r79,hr79,hh⟩:=ae hh
             cases hh
             try simp only[ag,seval,-Int.reduceToNat,hr1,hr2,hr24,Zex,hr53,ax78,hr79]
             rw[al]
             refine⟨_,rfl,?_⟩
             refine⟨v10ex,v11ex,v12ex,?_,?_,?_,?_,?_,?_,?_,?_,?_,?_,?_,?_,?_,?_⟩
             all_goals first|rfl|(simp only[ag,seval,-Int.reduceToNat,hr1,hr2,hr24,Zex,hr53,ax78,hr79]<;>rfl)
         ·dsimp only at hx hh
          obtain⟨rfl,hE⟩:=hx
          cases hh
          try simp only[aZ,aR,bc,cu,cr]
          exact hE
      ·clear hh
       have hh:=ho28
       try simp only[ag,seval,-Int.reduceToNat,hr1,hr2,Zbx,hr24]
       refine sp aP hh (fun _ hh =>?_) (fun _ hh =>?_)
       ·cases hh
        try simp only[ag,seval,-Int.reduceToNat,hr1,hr2,Zbx,hr24]
        rw[al]
        refine⟨_,rfl,?_⟩
        refine⟨v10bx,v11bx,v12bx,?_,?_,?_,?_,?_,?_,?_,?_,?_,?_,?_,?_,?_,?_⟩
        all_goals first|rfl|(simp only[ag,seval,-Int.reduceToNat,hr1,hr2,Zbx,hr24]<;>rfl)
       ·obtain⟨r81,hr81,hh⟩:=ae hh
        cases hh
        try simp only[ag,seval,-Int.reduceToNat,hr1,hr2,Zbx,hr24,hr81]
        rw[al]
        refine⟨_,rfl,?_⟩
        refine⟨v10bx,v11bx,v12bx,?_,?_,?_,?_,?_,?_,?_,?_,?_,?_,?_,?_,?_,?_⟩
        all_goals first|rfl|(simp only[ag,seval,-Int.reduceToNat,hr1,hr2,Zbx,hr24,hr81]<;>rfl)
    ·dsimp only at hx hh
     obtain⟨rfl,hE⟩:=hx
     cases hh
     try simp only[aZ,aR,bc,cu,cr]
     exact hE
 ·clear hh
  have hh:=ho3
  try simp only[ag,seval,-Int.reduceToNat,hr1,hr2]
  refine sp aP hh (fun _ hh =>?_) (fun _ hh =>?_)
  ·cases hh
   try simp only[ag,seval,-Int.reduceToNat,hr1,hr2]
   rw[al]
   refine⟨_,rfl,?_⟩
   refine⟨?_,?_,?_,?_,?_,?_⟩
   all_goals first|rfl|(simp only[ag,seval,-Int.reduceToNat,hr1,hr2]<;>rfl)
  ·try simp only[ag,seval,-Int.reduceToNat,hr1,hr2]
   refine sp aP hh (fun _ hh =>?_) (fun _ hh =>?_)
   ·cases hh
    try simp only[ag,seval,-Int.reduceToNat,hr1,hr2]
    rw[al]
    refine⟨_,rfl,?_⟩
    refine⟨?_,?_,?_,?_,?_,?_⟩
    all_goals first|rfl|(simp only[ag,seval,-Int.reduceToNat,hr1,hr2]<;>rfl)
   ·try simp only[ag,seval,-Int.reduceToNat,hr1,hr2]
    refine sp aP hh (fun _ hh =>?_) (fun _ hh =>?_)
    ·cases hh
     try simp only[ag,seval,-Int.reduceToNat,hr1,hr2]
     rw[al]
     refine⟨_,rfl,?_⟩
     refine⟨?_,?_,?_,?_,?_,?_⟩
     all_goals first|rfl|(simp only[ag,seval,-Int.reduceToNat,hr1,hr2]<;>rfl)
    ·try simp only[ag,seval,-Int.reduceToNat,hr1,hr2]
     refine sp aP hh (fun _ hh =>?_) (fun _ hh =>?_)
     ·cases hh
      try simp only[ag,seval,-Int.reduceToNat,hr1,hr2]
      rw[al]
      refine⟨_,rfl,?_⟩
      refine⟨?_,?_,?_,?_,?_,?_⟩
      all_goals first|rfl|(simp only[ag,seval,-Int.reduceToNat,hr1,hr2]<;>rfl)
     ·obtain⟨r86,hr86,hh⟩:=ae hh
      cases hh
      try simp only[ag,seval,-Int.reduceToNat,hr1,hr2,hr86]
      rw[al]
      refine⟨_,rfl,?_⟩
      refine⟨?_,?_,?_,?_,?_,?_⟩
      all_goals first|rfl|(simp only[ag,seval,-Int.reduceToNat,hr1,hr2,hr86]<;>rfl)
theorem vG:bI Tryz.prog 4 wB:=bI.of (mode := .clean) tok vu mixed Tryz.func4 (by kernel_rfl) ⟨by kernel_rfl,by kernel_rfl⟩ (fun _=>Nat.le_of_ble_eq_true (by kernel_rfl)) (fun x r h=>w7 x.1 x.2.1 x.2.2.1 x.2.2.2 r h)
end Go.Proofs.YtpkahnkoecbndaaGreatDoor.Am
namespace Go.Proofs.YtpkahnkoecbndaaGreatDoor.Am
open Go.ChangeShapes Go.WideShapes Go.ChangeAt Go.RowKit Go.Proofs.YtpkahnkoecbndaaGreatDoor.P
set_option maxRecDepth 100000
set_option linter.unusedVariables false
theorem Tryz.own:ownKnob Tryz.prog.godebug=none:=by kernel_rfl
theorem Tryz.laidOut:laidOutB Tryz.prog=true:=by kernel_rfl
theorem Wa (n:Nat):TG tab (n+1) 3 (eI .i64) (fun x=>(Lit.int .i64 x).wf=true):=WG JK rfl rfl
theorem Qm (n:Nat):TG tab (n+2) 25 (jv (eI .i64)) (fun x=>(x.length*8≤140737488351232∧∀y∈x,(Lit.int .i64 y).wf=true)):=UZ xq rfl rfl (by rw[JK];rfl) (Wa n)
theorem U0 (n:Nat):TG tab (n+3) 28 (jv (jv (eI .i64))) (fun x=>(x.length*24≤140737488351232∧∀y∈x,(y.length*8≤140737488351232∧∀z∈y,(Lit.int .i64 z).wf=true))):=UZ Gq rfl rfl (by rw[xq];rfl) (Qm n)
theorem rX:Oz tab 4 [28,25,3,25] (dX (gg (jv (eI .i64))) (dX (gg (eI .i64)) (dX (aI .i64) (dJ (gg (eI .i64)))))) (fun x=>(x.1.length*24≤140737488351232∧∀y∈x.1,(y.length*8≤140737488351232∧∀z∈y,(Lit.int .i64 z).wf=true))∧((x.2.1.length*8≤140737488351232∧∀y∈x.2.1,(Lit.int .i64 y).wf=true)∧((Lit.int .i64 x.2.2.1).wf=true∧((x.2.2.2.length*8≤140737488351232∧∀y∈x.2.2.2,(Lit.int .i64 y).wf=true))))):=(T6 (T5 Gq rfl (U0 1)) (T6 (T5 xq rfl (Qm 2)) (T6 (WE JK rfl) (V9 (T5 xq rfl (Qm 2))))))
theorem qK (law:∀(a0:(List (List Int))) (a1:(List Int)) (a2:Int) (a3:(List Int)),((a0.length*24≤140737488351232∧∀y∈a0,(y.length*8≤140737488351232∧∀z∈y,(Lit.int .i64 z).wf=true)))→((a1.length*8≤140737488351232∧∀y∈a1,(Lit.int .i64 y).wf=true))→((Lit.int .i64 a2).wf=true)→((a3.length*8≤140737488351232∧∀y∈a3,(Lit.int .i64 y).wf=true))→P.ef a0 a1 a2 a3=some true) (os:Os) (started:os.Started) (H:Type) (enc:TypeId×Value→H) :
  ReturnsInHanded {} Tryz.checked os 4 .any (fun w args=>(Rows.auditDrawsSpec.pre enc Tryz.prog Tryz.f4 Rows.auditDrawsRow.domain false w args∧laidMetH Tryz.prog Ih w)∧sizedMet enc Tryz.prog Tryz.f4 (OpenSpec.ofChange Rows.auditDrawsSpec) false w args) (Rows.auditDrawsSpec.post enc Tryz.prog Tryz.f4 false true false false):=by
 refine QB (C:=Tryz.checked) (X:=fun w _=>laidMetH Tryz.prog Ih w) (fun _ _ _ hh h=>h.of_heap hh) (fun _ _ h=>P0 h) (T:=tab) (tb:=4) (n:=4) tok Tryz.own started (by kernel_rfl) Tryz.func4
  (ChangeSpec.witness_shaped (enc:=enc) (C:=Tryz.checked) (os:=os) (X:=fun w _=>laidMetH Tryz.prog Ih w) false (World.doorLaid Tryz.prog 400 os) #[.slice none 0 0,.slice none 0 0,.int .i64 0,.slice none 0 0] 8 rfl (World.shaped_of_RefB (by kernel_rfl) (by kernel_rfl)) (by kernel_rfl) (by kernel_rfl) (by kernel_rfl) (Pr os _)) Tryz.laidOut (by kernel_rfl) rfl (by kernel_rfl) rfl (fun ds hds =>?_) (fun ar hl hs =>?_)
 ·rw[Tryz.params4]at hds
  match ds,hds with
  | [d0,d1,d2,d3],_=>exact⟨rfl,rfl,rfl⟩
 ·rw[Tryz.params4]at hl hs
  exact T2 rX vG (fun x hx=>law x.1 x.2.1 x.2.2.1 x.2.2.2 hx.1 hx.2.1 hx.2.2.1 hx.2.2.2) ar hl hs
theorem th (law:∀(a0:(List (List Int))) (a1:(List Int)) (a2:Int) (a3:(List Int)),((a0.length*24≤140737488351232∧∀y∈a0,(y.length*8≤140737488351232∧∀z∈y,(Lit.int .i64 z).wf=true)))→((a1.length*8≤140737488351232∧∀y∈a1,(Lit.int .i64 y).wf=true))→((Lit.int .i64 a2).wf=true)→((a3.length*8≤140737488351232∧∀y∈a3,(Lit.int .i64 y).wf=true))→P.ef a0 a1 a2 a3=some true):Rows.AuditDrawsSaid :=
 OpenClaim.holds_of_wide 4 Tryz.f4 rfl rfl rfl rfl rfl rfl rfl ⟨rfl,rfl,rfl,rfl,rfl⟩ rfl rfl rfl rfl rfl (by kernel_rfl) Tryz.func4 (by kernel_rfl)
  (of_decide_eq_true (by kernel_rfl)) (by unfold Func.isWrapper;first|(rw[if_pos (by decide +kernel)];kernel_rfl)|(rw[if_neg (by decide +kernel)];exact⟨rfl,rfl⟩))
  (fun os started H enc _=>qK law os started H enc)
theorem rI (law:∀(a0:(List (List Int))) (a1:(List Int)) (a2:Int) (a3:(List Int)),((a0.length*24≤140737488351232∧∀y∈a0,(y.length*8≤140737488351232∧∀z∈y,(Lit.int .i64 z).wf=true)))→((a1.length*8≤140737488351232∧∀y∈a1,(Lit.int .i64 y).wf=true))→((Lit.int .i64 a2).wf=true)→((a3.length*8≤140737488351232∧∀y∈a3,(Lit.int .i64 y).wf=true))→P.ef a0 a1 a2 a3=some true):Rows.AuditDrawsCardSaid :=
 Claim7.holds_tied_plain_at .later [] [.data,.data,.data] true Rows.auditDrawsCard.stood.harness false
  (th law) (fun _ h=>by cases h) (by kernel_rfl) (fun _ h=>by cases h) auditDraws_row_tie rfl ⟨rfl,rfl⟩ (by kernel_rfl) rfl
  (fun f fn hf hfn=>by
   obtain rfl:f=4:=Option.some.inj ((show Tryz.prog.funcNamed "kitbag/kitbaglaw51.AuditDraws" = some 4 by kernel_rfl).symm.trans hf) |>.symm
   obtain rfl:fn=Tryz.f4:=(Option.some.inj (Tryz.func4.symm.trans hfn)).symm
   exact⟨by kernel_rfl,fun j t ht=>by
    rw[Tryz.params4]at ht
    have hm:t∈[28,25,3,25]:=by simpa using Array.mem_of_getElem? ht
    have hall:([28,25,3,25].all fun u => !Tryz.prog.wantsStandIn u)=true:=by kernel_rfl
    exact (show Tryz.prog.wantsStandIn t=false by simpa using List.all_eq_true.1 hall t hm)⟩)
  (by kernel_rfl)
end Go.Proofs.YtpkahnkoecbndaaGreatDoor.Am
namespace Go.Proofs.YtpkahnkoecbndaaGreatDoor.P.T
open Go.RowKit
set_option linter.unusedSimpArgs false
set_option linter.unusedVariables false
theorem oV (n h:Int):dE n h=some (decide (0≤n∧n≤h)):=by
 unfold dE
 by_cases h0:n≥0
 ·rw[if_pos (by simpa using h0)]
  have:(0≤n∧n≤h)↔n≤h:=by omega
  simp[this]
 ·rw[if_neg (by simpa using h0)]
  have:¬(0≤n∧n≤h):=by omega
  simp[this]
def jx (x:av):Prop:=x.ca = -1∧x.bK = -1∧(x.ct.size:Int)≤8000∧(0≤x.aN∧x.aN≤1099511627776)∧(0≤x.aU∧x.aU≤1099511627776)
instance (x:av):Decidable (jx x):=by unfold jx;infer_instance
theorem Mt (x:av):im x=some (decide (jx x)):=by
 unfold im
 simp only[oV,Option.bind_some]
 by_cases h1:x.ca = -1
 ·rw[if_pos (by simpa using h1),Option.bind_some]
  by_cases h2:x.bK = -1
  ·rw[if_pos (by simpa using h2)]
   by_cases h3:(x.ct.size:Int)≤8000
   ·rw[if_pos (decide_eq_true h3)]
    by_cases h4:0≤x.aN∧x.aN≤1099511627776
    ·rw[if_pos (decide_eq_true h4)]
     congr 1
     rw[decide_eq_decide]
     exact⟨fun h=>⟨h1,h2,h3,h4,h⟩,fun h=>h.2.2.2.2⟩
    ·rw[if_neg (by simpa using h4),decide_eq_false (fun h:jx x=>h4 h.2.2.2.1)]
   ·rw[if_neg (by simpa using h3),decide_eq_false (fun h:jx x=>h3 h.2.2.1)]
  ·rw[if_neg (by simpa using h2),decide_eq_false (fun h:jx x=>h2 h.2.1)]
 ·rw[if_neg (by simpa using h1),Option.bind_some,if_neg (by simp),decide_eq_false (fun h:jx x=>h1 h.1)]
def Rz:av:=av.mk (ByteArray.mk #[]) 0 0 0 0
def rY (l:List av) (a b:Int):av×Int :=
 match P.idx l a,P.idx l b with
 | some x,some y =>
  if IntKind.i64.wrap (x.aN+y.aN)>1125899906842624∨IntKind.i64.wrap (x.aU+y.aU)>1125899906842624 then (Rz,3)
  else (av.mk (ByteArray.mk #[]) (IntKind.i64.wrap (x.aN+y.aN)) (IntKind.i64.wrap (x.aU+y.aU)) a b,0)
 | _,_=>(Rz,4)
theorem AW {α:Type} {l:List α} {i:Int} (h:¬(0≤i∧i<l.length)):P.idx l i=none:=by
 unfold P.idx
 rw[if_neg h]
theorem small {n:Nat} (h:n≤maxLen):(n:Int)≤9223372036854775807:=by
 have:maxLen≤9223372036854775807:=by decide
 omega
theorem Sx {l:List av} (hl:l.length≤maxLen) (a b:Int):jl l a b=some (rY l a b):=by
 unfold jl
 have hw:IntKind.i64.wrap ((l.length:Int)-1)=(l.length:Int)-1:=wrap64 (by omega) (by have:=small hl;omega)
 simp only[oV,hw,Option.bind_some]
 by_cases ha:0≤a∧a<l.length
 ·have ha':(0≤a∧a≤(l.length:Int)-1):=by omega
  by_cases hb:0≤b∧b<l.length
  ·have hb':(0≤b∧b≤(l.length:Int)-1):=by omega
   simp only[ha',hb',and_self,decide_true,Bool.not_true,Bool.false_eq_true,if_false,sM ha.1 ha.2,sM hb.1 hb.2,Option.bind_some,rY,decide_eq_true_eq]
   split
   ·rename_i h;rw[if_pos (.inl h)];rfl
   ·split
    ·rename_i h;rw[if_pos (.inr h)];rfl
    ·rename_i h h';rw[if_neg (by intro hh;rcases hh with hh|hh<;>contradiction)]
  ·have hb':¬(0≤b∧b≤(l.length:Int)-1):=by omega
   simp only[ha',hb',and_self,decide_true,decide_false,Bool.not_true,Bool.not_false,Bool.false_eq_true,if_false,if_true,sM ha.1 ha.2,AW hb,rY]
   rfl
 ·have ha':¬(0≤a∧a≤(l.length:Int)-1):=by omega
  simp only[ha',decide_false,Bool.not_false,if_true,AW ha,rY]
  rfl
def Su (l:List av) (i:Nat):Prop:=∀x,l[i]? = some x→jx x∨rY (l.take i) x.ca x.bK=(x,0)
def iL (l:List av):Prop:=l.length≤2000∧∀i,i<l.length→Su l i
theorem MK (x y:av):((x.ct==y.ct)&&((x.aN==y.aN)&&((x.aU==y.aU)&&((x.ca==y.ca)&&(x.bK==y.bK)))))=true↔x=y:=by
 obtain⟨a,b,c,d,e⟩:=x
 obtain⟨a',b',c',d',e'⟩:=y
 simp[TN]
theorem uM (v:az):∃b,dp v=some b∧(b=true↔iL v.ak):=by
 obtain⟨l⟩:=v
 unfold dp
 simp only
 by_cases hlen:l.length≤2000
 ·have hle:¬((l.length:Int)>2000):=by omega
  simp only[hle,decide_false,Bool.false_eq_true,if_false]
  have hm:l.length≤maxLen:=Nat.le_trans hlen (by decide)
  obtain⟨r,h1,h2⟩:=oK (body:=kh ⟨l⟩) (fun s=>∃i:Nat,s=i∧i≤l.length∧∀j,j<i→Su l j) (fun s=>(l.length:Int).toNat-s.toNat)
   (fun r=>match r with | .inl _=>iL l | .inr b=>b=false∧¬iL l) (s:=0) ⟨0,rfl,Nat.zero_le _,fun j hj=>by omega⟩ (by simp only[FU];omega) (fun s hs=>by
    obtain⟨i,rfl,hi,hok⟩:=hs
    simp only[kh]
    by_cases hlt:i<l.length
    ·rw[if_pos (by simp;omega)]
     simp only[du hlt,Option.bind_some,Mt]
     have hw:IntKind.i64.wrap ((i:Int)+1)=((i+1:Nat):Int):=by rw[wrap64 (by omega) (by omega)];rfl
     have hnext:Su l i→(∃i':Nat,IntKind.i64.wrap ((i:Int)+1)=i'∧i'≤l.length∧∀j,j<i'→Su l j)∧(l.length:Int).toNat-(IntKind.i64.wrap ((i:Int)+1)).toNat<(l.length:Int).toNat-(i:Int).toNat:=by
      intro hk
      refine⟨⟨i+1,hw,hlt,fun j hj =>?_⟩,by rw[hw];omega⟩
      rcases Nat.lt_succ_iff_lt_or_eq.1 hj with h|rfl
      ·exact hok j h
      ·exact hk
     by_cases hleaf:jx l[i]
     ·left
      refine⟨_,by simp only[hleaf,decide_true,if_true],hnext fun x hx =>?_⟩
      rw[List.getElem?_eq_getElem hlt,Option.some.injEq]at hx
      subst hx;exact .inl hleaf
     ·simp only[hleaf,decide_false,Bool.false_eq_true,if_false,zh hi,Option.bind_some,Sx (show (l.take i).length≤maxLen by simp;omega)]
      have hbad:rY (l.take i) l[i].ca l[i].bK≠(l[i],0)→¬iL l:=by
       intro hne hs
       rcases hs.2 i hlt _ (List.getElem?_eq_getElem hlt) with h|h
       ·exact hleaf h
       ·exact hne h
      generalize hp:rY (l.take i) l[i].ca l[i].bK=p at *
      obtain⟨y,e⟩:=p
      by_cases he:e=0
      ·subst he
       simp only[bne_self_eq_false,Bool.false_eq_true,if_false]
       by_cases hxy:l[i]=y
       ·left
        have:=(MK l[i] y).2 hxy
        refine⟨_,by simp only[this,Bool.not_true,Bool.false_eq_true,if_false],hnext fun x hx =>?_⟩
        rw[List.getElem?_eq_getElem hlt,Option.some.injEq]at hx
        subst hx
        exact .inr (by rw[hp,hxy])
       ·right
        have:=mt (MK l[i] y).1 hxy
        refine⟨.inr false,by rw[if_pos (by rw[Bool.not_eq_true]at this;rw[this];rfl)],rfl,hbad fun h=>hxy ?_⟩
        simp only[Prod.mk.injEq]at h
        exact h.1.symm
      ·right
       refine⟨.inr false,by rw[if_pos (by simpa using he)],rfl,hbad fun h=>he ?_⟩
       simp only[Prod.mk.injEq]at h
       exact h.2
    ·right
     refine⟨.inl (),by rw[if_neg (by simp;omega)],hlen,fun j hj=>hok j (by omega)⟩)
  rw[h1]
  cases r with
  | inl u=>exact⟨true,rfl,by simpa using h2⟩
  | inr b=>obtain⟨rfl,h3⟩:=h2;exact⟨false,rfl,by simpa using h3⟩
 ·have hle:((l.length:Int)>2000):=by omega
  simp only[hle,decide_true,if_true]
  exact⟨false,rfl,by simp only[Bool.false_eq_true,false_iff];exact fun h=>hlen h.1⟩
end Go.Proofs.YtpkahnkoecbndaaGreatDoor.P.T
namespace Go.Proofs.YtpkahnkoecbndaaGreatDoor.P.T
open Go.RowKit
set_option linter.unusedSimpArgs false
set_option linter.unusedVariables false
theorem Ia {σ ρ:Type} {body:σ→Option (σ⊕ρ)} {n:Nat} {s s':σ} (h:body s=some (.inl s')):lx body (n+1) s=lx body n s':=by simp only[lx,h]
theorem AZ {σ ρ:Type} {body:σ→Option (σ⊕ρ)} {n:Nat} {s:σ} {r:ρ} (h:body s=some (.inr r)):lx body (n+1) s=some r:=by simp only[lx,h]
theorem b9 {i:Nat} (h:i<4611686018427387904):IntKind.i64.wrap ((i:Int)+1)=((i+1:Nat):Int):=by rw[wrap64 (by omega) (by omega)];omega
theorem cN {α:Type} {l:List α} {i:Nat} {x:α} (h:l[i]? = some x):P.idx l (i:Int)=some x:=vz (by omega) (by simpa using h)
theorem oc {σ ρ:Type} {body:σ→Option (σ⊕ρ)} (n:Nat) (S:Nat→σ) {r:ρ} (hn:n<4611686018427387904) (hstep:∀i,i<n→body (S i)=some (.inl (S (i+1)))) (hend:body (S n)=some (.inr r)):aJ body (S 0)=some r:=by
 have key:∀(m i fuel:Nat),i+m=n→m<fuel→lx body fuel (S i)=some r:=by
  intro m
  induction m with
  | zero =>
   intro i fuel hi hf
   obtain⟨f,rfl⟩:∃f,fuel=f+1:=⟨fuel-1,by omega⟩
   have:i=n:=by omega
   subst this
   exact AZ hend
  | succ m ih =>
   intro i fuel hi hf
   obtain⟨f,rfl⟩:∃f,fuel=f+1:=⟨fuel-1,by omega⟩
   rw[Ia (hstep i (by omega))]
   exact ih (i+1) f (by omega) (by omega)
 exact key n 0 FU (by omega) (by have:FU=1000000000000000000000000:=rfl;omega)
def gX {α ρ:Type} (st:Nat→α→Option ρ):Nat→List α→Option ρ
 | _,[]=>none
 | i,x::l=>match st i x with|some r=>some r|none=>gX st (i+1) l
theorem fQ {α ρ:Type} {st:Nat→α→Option ρ} : ∀ {l:List α} {i:Nat},gX st i l=none↔∀j x,l[j]? = some x→st (i+j) x=none
 | [],i=>by simp[gX]
 | x::l,i=>by
  simp only[gX]
  constructor
  ·intro h j y hj
   cases hs:st i x with
   | some r=>rw[hs]at h;cases h
   | none =>
    rw[hs]at h
    cases j with
    | zero=>simp only[List.getElem?_cons_zero,Option.some.injEq]at hj;subst hj;exact hs
    | succ j =>
     have:=fQ.1 h j y (by simpa using hj)
     rw[← this];congr 1;omega
  ·intro h
   have h0:=h 0 x rfl
   simp only[Nat.add_zero]at h0
   rw[h0]
   refine fQ.2 fun j y hj =>?_
   have:=h (j+1) y (by simpa using hj)
   rw[← this];congr 1;omega
theorem jw {α ρ:Type} {st:Nat→α→Option ρ} {r:ρ} : ∀ {l:List α} {i:Nat},gX st i l=some r→∃j x,l[j]? = some x∧st (i+j) x=some r
 | [],i,h=>by cases h
 | x::l,i,h=>by
  simp only[gX]at h
  cases hs:st i x with
  | some r' =>
   rw[hs]at h
   exact⟨0,x,rfl,by rw[Nat.add_zero,hs];exact h⟩
  | none =>
   rw[hs]at h
   obtain⟨j,y,h1,h2⟩:=jw h
   exact⟨j+1,y,by simpa using h1,by rw[← h2];congr 1;omega⟩
theorem drop_cons {α:Type} {l rest:List α} {i:Nat} {x:α} (h:l.drop i=x::rest):i<l.length∧l[i]? = some x∧l.drop (i+1)=rest:=by
 have hi:i<l.length:=by
  rcases Nat.lt_or_ge i l.length with h1|h1
  ·exact h1
  ·rw[List.drop_eq_nil_of_le h1]at h;cases h
 rw[List.drop_eq_getElem_cons hi]at h
 simp only[List.cons.injEq]at h
 exact⟨hi,by rw[List.getElem?_eq_getElem hi,h.1],h.2⟩
theorem QG {α ρ:Type} (l:List α) (n:Nat) {body:Int→Option (Int⊕(Unit⊕ρ))} (st:Nat→α→Option ρ) (hn:n≤l.length) (hlen:n<4611686018427387904)
  (hb:∀(i:Nat) x,i<n→l[i]? = some x→body (i:Int)=some (match st i x with|none =>.inl ((i+1:Nat):Int)|some r =>.inr (.inr r))) (he:body (n:Int)=some (.inr (.inl ()))) :
  aJ body 0=some (match gX st 0 (l.take n) with|none =>.inl ()|some r =>.inr r):=by
 have key:∀(rest:List α) (i fuel:Nat),i≤n→(l.take n).drop i=rest→rest.length<fuel→lx body fuel (i:Int)=some (match gX st i rest with|none =>.inl ()|some r =>.inr r):=by
  intro rest
  induction rest with
  | nil =>
   intro i fuel hi hd hf
   obtain⟨f,rfl⟩:∃f,fuel=f+1:=⟨fuel-1,by simp at hf;omega⟩
   have h0:=congrArg List.length hd
   simp at h0
   have:i=n:=by omega
   subst this
   rw[AZ he]
   rfl
  | cons x rest ih =>
   intro i fuel hi hd hf
   obtain⟨f,rfl⟩:∃f,fuel=f+1:=⟨fuel-1,by simp at hf;omega⟩
   obtain⟨h1,h2,h3⟩:=drop_cons hd
   have hin:i<n:=by simp at h1;omega
   have h2':l[i]? = some x:=by rwa [List.getElem?_take_of_lt hin]at h2
   have:=hb i x hin h2'
   cases hs:st i x with
   | some r =>
    rw[hs]at this
    rw[AZ this]
    simp only[gX,hs]
   | none =>
    rw[hs]at this
    rw[Ia this,ih (i+1) f (by omega) h3 (by simp at hf;omega)]
    simp only[gX,hs]
 exact key (l.take n) 0 FU (Nat.zero_le _) rfl (by have:FU=1000000000000000000000000:=rfl;simp;omega)
theorem QF {α ρ:Type} (l:List α) {body:Int→Option (Int⊕(Unit⊕ρ))} (st:Nat→α→Option ρ) (hlen:l.length<4611686018427387904)
  (hb:∀(i:Nat) x,l[i]? = some x→body (i:Int)=some (match st i x with|none =>.inl ((i+1:Nat):Int)|some r =>.inr (.inr r))) (he:body (l.length:Int)=some (.inr (.inl ()))) :
  aJ body 0=some (match gX st 0 l with|none =>.inl ()|some r =>.inr r):=by
 have:=QG l l.length st (Nat.le_refl _) hlen (fun i x _ h=>hb i x h) he
 rwa [List.take_length]at this
theorem RY {α:Type} (l:List α) {body:Int→Option (Int⊕(Unit⊕Bool))} (p:Nat→α→Prop) [∀i x,Decidable (p i x)] (hlen:l.length<4611686018427387904)
  (hb:∀(i:Nat) x,l[i]? = some x→body (i:Int)=some (if p i x then .inl ((i+1:Nat):Int) else .inr (.inr false))) (he:body (l.length:Int)=some (.inr (.inl ()))) :
  (∃h:(∀i x,l[i]? = some x→p i x),aJ body 0=some (.inl ()))∨(∃h:¬(∀i x,l[i]? = some x→p i x),aJ body 0=some (.inr false)):=by
 have hs:=QF l (fun i x=>if p i x then none else some false) hlen (fun i x hx=>by
  rw[hb i x hx]
  by_cases h:p i x
  ·rw[if_pos h,if_pos h]
  ·rw[if_neg h,if_neg h]) he
 cases hf:gX (fun i x=>if p i x then none else some false) 0 l with
 | none =>
  refine .inl ⟨fun i x hx =>?_,by rw[hs,hf]⟩
  have:=fQ.1 hf i x hx
  simp only[Nat.zero_add]at this
  by_cases h:p i x
  ·exact h
  ·rw[if_neg h]at this;cases this
 | some r =>
  obtain⟨j,x,h1,h2⟩:=jw hf
  simp only[Nat.zero_add]at h2
  by_cases h:p j x
  ·rw[if_pos h]at h2;cases h2
  ·rw[if_neg h]at h2
   cases h2
   exact .inr ⟨fun hall=>h (hall j x h1),by rw[hs,hf]⟩
theorem Jy {a b:List Int} (ha:a.length<4611686018427387904):fi a b=some (decide (a=b)):=by
 unfold fi
 by_cases hl:a.length=b.length
 ·rw[if_neg (by simp[hl])]
  rcases RY a (body:=gA a b) (fun i x=>b[i]? = some x) ha (fun i x hx=>by
    have hi:=(List.getElem?_eq_some_iff.1 hx).1
    have hb:b[i]? = some (b[i]'(by omega)):=List.getElem?_eq_getElem (by omega)
    unfold gA
    simp only[cN hx,cN hb,Option.bind_some,b9 (show i<4611686018427387904 by omega)]
    rw[if_pos (by simp;omega)]
    by_cases he:x=b[i]'(by omega)
    ·rw[if_neg (by simp[he]),if_pos (by rw[hb,← he])]
    ·rw[if_pos (by simp[he]),if_neg (by rw[hb];simp;exact fun h=>he h.symm)]) (by unfold gA;simp) with⟨h,e⟩|⟨h,e⟩
  ·rw[e]
   have:a=b:=by
    apply List.ext_getElem?
    intro j
    rcases Nat.lt_or_ge j a.length with hj|hj
    ·rw[h j _ (List.getElem?_eq_getElem hj),List.getElem?_eq_getElem hj]
    ·rw[List.getElem?_eq_none hj,List.getElem?_eq_none (by omega)]
   simp[this]
  ·rw[e]
   have:a≠b:=fun hab=>h (by subst hab;exact fun _ _ h=>h)
   simp[this]
 ·rw[if_pos (by simp;omega)]
  have:a≠b:=fun h=>hl (by rw[h])
  simp[this]
def qM (row:List Int) (n:Int):Prop:=0≤n∧n≤1099511627776∧row.length≤100∧(row.length:Int)≤n∧∀i x,row[i]? = some x→0≤x∧x<n-(i:Nat)
open Classical in
theorem uL {row:List Int} (n:Int) (hr:row.length<4611686018427387904):gp row n=some (decide (qM row n)):=by
 unfold gp
 by_cases h1:n<0
 ·rw[if_pos (by simp[h1])]
  have:¬qM row n:=fun h=>by have:=h.1;omega
  simp[this]
 rw[if_neg (by simp;omega)]
 by_cases h2:n>1099511627776
 ·rw[if_pos (by simp;omega)]
  have:¬qM row n:=fun h=>by have:=h.2.1;omega
  simp[this]
 rw[if_neg (by simp;omega)]
 have hm:(if 100<n then (100:Int) else n)=min 100 n:=by
  split<;>omega
 simp only[Option.bind_some,hm]
 by_cases h3:(row.length:Int)>min 100 n
 ·rw[if_pos (by simp;omega)]
  have:¬qM row n:=fun h=>by have:=h.2.2.1;have:=h.2.2.2.1;omega
  simp[this]
 rw[if_neg (by simp;omega)]
 rcases RY row (body:=iU row n) (fun i x=>0≤x∧x<n-(i:Nat)) hr (fun i x hx=>by
   have hi:=(List.getElem?_eq_some_iff.1 hx).1
   unfold iU
   simp only[cN hx,Option.bind_some,b9 (show i<4611686018427387904 by omega)]
   rw[if_pos (by simp;omega),wrap64 (by omega) (by omega)]
   by_cases hx0:x<0
   ·rw[if_pos (by simp[hx0]),if_neg (by omega)]
   rw[if_neg (by simp;omega)]
   by_cases hx1:x≥n-(i:Nat)
   ·rw[if_pos (by simp;omega),if_neg (by omega)]
   ·rw[if_neg (by simp;omega),if_pos (by omega)]) (by unfold iU;simp) with⟨h,e⟩|⟨h,e⟩
 ·rw[e]
  have:qM row n:=⟨by omega,by omega,by omega,by omega,h⟩
  simp[this]
 ·rw[e]
  have:¬qM row n:=fun k=>h k.2.2.2.2
  simp[this]
open Classical in
theorem EE {row:List Int} (n:Int) (hr:row.length<4611686018427387904):sR row n=some (decide (qM row n)):=by
 unfold sR
 by_cases h1:n<0
 ·rw[if_pos (by simp[h1])]
  have:¬qM row n:=fun h=>by have:=h.1;omega
  simp[this]
 rw[if_neg (by simp;omega)]
 by_cases h2:n>1099511627776
 ·rw[if_pos (by simp;omega)]
  have:¬qM row n:=fun h=>by have:=h.2.1;omega
  simp[this]
 rw[if_neg (by simp;omega)]
 by_cases h3:(row.length:Int)>100
 ·rw[if_pos (by simp;omega)]
  have:¬qM row n:=fun h=>by have:=h.2.2.1;omega
  simp[this]
 rw[if_neg (by simp;omega)]
 simp only[Option.bind_some]
 by_cases h4:(row.length:Int)>n
 ·rw[if_pos (by simp;omega)]
  have:¬qM row n:=fun h=>by have:=h.2.2.2.1;omega
  simp[this]
 rw[if_neg (by simp;omega)]
 rcases RY row (body:=mB row n) (fun i x=>0≤x∧x<n-(i:Nat)) hr (fun i x hx=>by
   have hi:=(List.getElem?_eq_some_iff.1 hx).1
   unfold mB
   simp only[cN hx,Option.bind_some,b9 (show i<4611686018427387904 by omega)]
   rw[if_pos (by simp;omega),wrap64 (by omega) (by omega)]
   by_cases hx0:x<0
   ·rw[if_pos (by simp[hx0]),if_neg (by omega)]
   rw[if_neg (by simp;omega)]
   by_cases hx1:x≥n-(i:Nat)
   ·rw[if_pos (by simp;omega),if_neg (by omega)]
   ·rw[if_neg (by simp;omega),if_pos (by omega)]) (by unfold mB;simp) with⟨h,e⟩|⟨h,e⟩
 ·rw[e]
  have:qM row n:=⟨by omega,by omega,by omega,by omega,h⟩
  simp[this]
 ·rw[e]
  have:¬qM row n:=fun k=>h k.2.2.2.2
  simp[this]
theorem CX (row:List Int):∃b,ig row=some b∧(b=true→row.length≤102):=by
 unfold ig
 by_cases h1:(row.length:Int)≤20
 ·rw[if_pos (by simp;omega)];exact⟨_,rfl,fun _=>by omega⟩
 rw[if_neg (by simp;omega)]
 by_cases h2:(row.length:Int)>100
 ·rw[if_pos (by simp;omega)];exact⟨_,rfl,fun h=>by simp at h;omega⟩
 ·rw[if_neg (by simp;omega)];exact⟨_,rfl,fun h=>by cases h⟩
theorem TD (rows:List (List Int)) (hl:rows.length<4611686018427387904):∃b,pU rows=some b∧(b=true→rows.length≤402∧∀r∈rows,r.length≤102):=by
 unfold pU
 obtain⟨r,hr,hp⟩:=oK (body:=pV rows) (fun s=>∃i:Nat,s=i∧i≤rows.length∧i≤410∧∀j x,j<i→rows[j]? = some x→x.length≤102) (fun s=>(410-s).toNat)
  (fun r=>match r with | .inl _=>rows.length≤410→∀r∈rows,r.length≤102 | .inr b=>b=false) (s:=0) ⟨0,rfl,by omega,by omega,fun j x h=>by omega⟩ (by have:FU=1000000000000000000000000:=rfl;omega)
  (by
   rintro s ⟨i,rfl,h1,h2,h3⟩
   unfold pV
   dsimp only
   by_cases hi:i<rows.length∧i<410
   ·rw[if_pos (by simp;omega)]
    simp only[Option.bind_some]
    rw[if_pos (by simp;omega)]
    have hx:=List.getElem?_eq_getElem hi.1
    obtain⟨b,hb,hb2⟩:=CX rows[i]
    simp only[cN hx,Option.bind_some,hb,b9 (show i<4611686018427387904 by omega)]
    cases b with
    | false=>exact .inr ⟨_,rfl,rfl⟩
    | true =>
     refine .inl ⟨_,rfl,⟨i+1,rfl,by omega,by omega,fun j x hj hx' =>?_⟩,by omega⟩
     by_cases hji:j=i
     ·subst hji;rw[hx]at hx';cases hx';exact hb2 rfl
     ·exact h3 j x (by omega) hx'
   ·refine .inr ⟨.inl (),?_,fun hle r hr =>?_⟩
    ·by_cases h5:i<rows.length
     ·rw[if_pos (by simp;omega)]
      simp only[Option.bind_some]
      rw[if_neg (by simp;omega)]
     ·rw[if_neg (by simp;omega)]
      simp
    ·obtain⟨j,hj,rfl⟩:=List.getElem_of_mem hr
     exact h3 j _ (by omega) (List.getElem?_eq_getElem hj))
 rw[hr]
 simp only[Option.bind_some]
 cases r with
 | inr b=>subst hp;exact⟨_,rfl,fun h=>by cases h⟩
 | inl u =>
  dsimp only
  by_cases h1:(rows.length:Int)≤8
  ·rw[if_pos (by simp;omega)];exact⟨_,rfl,fun _=>⟨by omega,hp (by omega)⟩⟩
  rw[if_neg (by simp;omega)]
  by_cases h2:(rows.length:Int)>400
  ·rw[if_pos (by simp;omega)];exact⟨_,rfl,fun h=>by simp at h;exact⟨by omega,hp (by omega)⟩⟩
  ·rw[if_neg (by simp;omega)];exact⟨_,rfl,fun h=>by cases h⟩
end Go.Proofs.YtpkahnkoecbndaaGreatDoor.P.T
namespace Go.Proofs.YtpkahnkoecbndaaGreatDoor.P.T
open Go.RowKit
set_option linter.unusedSimpArgs false
set_option linter.unusedVariables false
theorem sN:maxLen=9223372036854775807:=rfl
theorem mN {α:Type} {B:Nat} {l m:List α} (h1:l.length+m.length≤1000000) (h2:B≤1000000):eY B l m=some (l++m):=by
 unfold eY
 have:=sN
 have h3:(l.length+m.length)*B≤1000000*1000000:=Nat.mul_le_mul h1 h2
 rw[if_pos ⟨by omega,by omega⟩]
theorem UW {α:Type} {B k:Nat} {z:α} (h1:k≤1000000) (h2:B≤1000000):IU B (k:Int) (k:Int) z=some (List.replicate k z):=by
 unfold IU
 have:=sN
 have h3:k*B≤1000000*1000000:=Nat.mul_le_mul h1 h2
 rw[if_pos ⟨by omega,by omega,by omega,by simpa using by omega⟩]
 simp
theorem Nh {x m:Int} (hx:0≤x) (hm:m≠0):vD .i64 x m=some (x % m):=by
 unfold vD
 rw[if_neg hm,Int.tmod_eq_emod_of_nonneg hx]
theorem QI {α:Type} {A B:List α} {i:Nat} {a:α} (hl:A.length=B.length) (ha:A[i]? = some a):(A.take i++B.drop i).set i a=A.take (i+1)++B.drop (i+1):=by
 have hi:=(List.getElem?_eq_some_iff.1 ha).1
 have e1:A.take (i+1)=A.take i++[a]:=by
  rw[List.take_succ_eq_append_getElem hi]
  have:=(List.getElem?_eq_some_iff.1 ha).2
  rw[this]
 have e2:B.drop i=B[i]'(by omega)::B.drop (i+1):=List.drop_eq_getElem_cons (by omega)
 have hlen:(A.take i).length=i:=by simp;omega
 rw[e1,e2,List.set_append_right _ _ (by omega),hlen,Nat.sub_self,List.set_cons_zero,List.append_assoc]
 rfl
theorem PO {α:Type} {A B:List α} {i:Nat} (hl:A.length=B.length) (hi:i<B.length):(A.take i++B.drop i)[i]? = B[i]?:=by
 have hlen:(A.take i).length=i:=by simp;omega
 rw[List.getElem?_append_right (by omega),hlen,Nat.sub_self,List.getElem?_drop,Nat.add_zero]
def s6 (rows:List (List Int)) (j:Nat):Int:=(rows.map fun r=>r.getD j 0).sum
def tp (rows:List (List Int)) (n:Int) (k:Nat):List Int:=(List.range k).map fun j=>s6 rows j % (n-(j:Nat))
def QS (rows:List (List Int)) (n k:Int):Prop:=0≤k∧k≤100∧k≤n∧n≤1099511627776∧rows.length≤400∧∀r∈rows,(r.length:Int)=k∧qM r n
theorem kg (rows:List (List Int)) (n:Int) (k:Nat):(tp rows n k).length=k:=by simp[tp]
theorem EX {rows:List (List Int)} {n:Int} {k j:Nat} (h:j<k):(tp rows n k)[j]? = some (s6 rows j % (n-(j:Nat))):=by simp[tp,h]
theorem wO (rows:List (List Int)) (r:List Int) (j:Nat):s6 (rows++[r]) j=s6 rows j+r.getD j 0:=by simp[s6]
theorem Uh (n:Int) (k:Nat):tp [] n k=List.replicate k 0:=by
 apply List.ext_getElem?
 intro j
 by_cases h:j<k
 ·rw[EX h];simp[s6,h]
 ·rw[List.getElem?_eq_none (by rw[kg];omega),List.getElem?_eq_none (by simp;omega)]
end Go.Proofs.YtpkahnkoecbndaaGreatDoor.P.T
