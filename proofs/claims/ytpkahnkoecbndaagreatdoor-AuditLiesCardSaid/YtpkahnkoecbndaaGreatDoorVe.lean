/- Part of a proof, made small by a program (wip/mini.py). -/
import Derived.Test.YtpkahnkoecbndaaGreatDoorVd
namespace Go.Proofs.YtpkahnkoecbndaaGreatDoor.Am
open Go.RowKit Go.Proofs.YtpkahnkoecbndaaGreatDoor.P
set_option maxRecDepth 100000
set_option maxHeartbeats 4000000
set_option linter.unusedSimpArgs false
set_option linter.unusedVariables false
noncomputable def tY:Env:=(Am.ext (Am.ext (Am.ext (Am.ext (Am.ext (Am.ext aU 65 false eP) 129 false lI) 162 false sh) 163 false nH) 164 false tK) 165 true nG)
theorem Ma:bT Tryz.prog tY:=((((((bT.none.add gU false).add tv false).add Hp false).add tw false).add Cr false).add Ac true)
theorem a6:type_of% (ai @w<|ai @dD<|ai @lX<|ai @zm<|ai @jO<|ai @nC<|@tY.eq_1):=⟨@w,@dD,@lX,@zm,@jO,@nC,@tY.eq_1⟩
theorem P5 (p0:(List Int)) (p1:(List Int)) (r:(List Int)×(List Int)) (hh:qp p0 p1=some r):aS .clean tab tY FU Tryz.f125 none [.sl false false p0.length (ab (eI .i64) p0),.sl false false p1.length (ab (eI .i64) p1)]=some (.clean (.tup [.sl false false r.1.length (ab (eI .i64) r.1),.sl false false r.2.length (ab (eI .i64) r.2)]),none):=by
 refine aw rfl Tryz.ntmps125 Tryz.results125 ?_
 unfold qp at hh
 obtain⟨r1,hr1,hh⟩:=ae hh
 try simp only[a6,seval,-Int.reduceToNat,hr1]
 refine sp an hh (fun _ hh =>?_) (fun _ hh =>?_)
 ·obtain⟨r3,hr3,hh⟩:=ae hh
  cases hh
  try simp only[a6,seval,-Int.reduceToNat,hr1,hr3]
 ·try simp only[a6,seval,-Int.reduceToNat,hr1]
  refine sp an hh (fun _ hh =>?_) (fun _ hh =>?_)
  ·obtain⟨x5,hx5,hh⟩:=ae hh
   have ax5:=bF (eI .i64) hx5
   simp only[bU]at ax5
   obtain⟨r6,hr6,hh⟩:=ae hh
   have i7:=jO ([r6.2])
   simp only[aM,bU,List.length_cons,List.length_nil,Nat.zero_add,Nat.reduceAdd,List.length_set]at i7
   obtain⟨r8,hr8,hh⟩:=ae hh
   cases hh
   try simp only[a6,seval,-Int.reduceToNat,hr1,ax5,hr6,i7,hr8]
  ·try simp only[a6,seval,-Int.reduceToNat,hr1]
   obtain⟨o11,ho11,hh⟩:=ae hh
   refine aB (fun s t H e=>match s with|s8a=>t 0=.sl false false p0.length (ab (eI .i64) p0)∧t 1=.sl false false p1.length (ab (eI .i64) p1)∧t 8=.int .i64 s8a) (fun o x t H e=>match o with|s8ax=>x=.exit 0∧t 0=.sl false false p0.length (ab (eI .i64) p0)∧t 1=.sl false false p1.length (ab (eI .i64) p1)∧t 8=.int .i64 s8ax) ho11 ?_ ?_ ?_
   ·refine⟨?_,?_,?_⟩
    all_goals first|rfl|(simp only[a6,seval,-Int.reduceToNat,hr1]<;>rfl)
   ·rintro s8a t H e Za c hh
    simp only[qq]at hh
    obtain⟨x12,hx12,hh⟩:=ae hh
    have ax12:=bF (eI .i64) hx12
    simp only[bU]at ax12
    try simp only[a6,seval,-Int.reduceToNat,hr1,Za,ax12]
    refine sp an hh (fun _ hh =>?_) (fun _ hh =>?_)
    ·cases hh
     try simp only[a6,seval,-Int.reduceToNat,hr1,Za,ax12]
     refine iS ?_
     refine⟨?_,?_,?_⟩
     all_goals first|rfl|(simp only[a6,seval,-Int.reduceToNat,hr1,Za,ax12]<;>rfl)
    ·cases hh
     try simp only[a6,seval,-Int.reduceToNat,hr1,Za,ax12]
     refine ki ?_
     refine⟨rfl,⟨?_,?_,?_⟩⟩
     all_goals first|rfl|(simp only[a6,seval,-Int.reduceToNat,hr1,Za,ax12]<;>rfl)
   ·rintro x t H e hx
    obtain⟨s8ax,rfl⟩:∃z,z=o11:=⟨_,rfl⟩
    dsimp only at hx hh
    obtain⟨rfl,Zax⟩:=hx
    have i14:=nC p0 ([s8ax])
    simp only[aM,bU,List.length_cons,List.length_nil,Nat.zero_add,Nat.reduceAdd,List.length_set]at i14
    obtain⟨r15,hr15,hh⟩:=ae hh
    obtain⟨x16,hx16,hh⟩:=ae hh
    obtain⟨q17a,q17b,q17c,q17d⟩:=fD (eI .i64) hx16
    simp only[bU]at q17b
    have i18:=nC p1 ([s8ax])
    simp only[aM,bU,List.length_cons,List.length_nil,Nat.zero_add,Nat.reduceAdd,List.length_set]at i18
    obtain⟨r19,hr19,hh⟩:=ae hh
    try simp only[a6,seval,-Int.reduceToNat,hr1,Zax,i14,hr15,q17a,q17b,q17c,q17d,i18,hr19]
    obtain⟨o20,ho20,hh⟩:=ae hh
    refine kX 0 (fun s t H e=>match s with|l9j2=>∃v9j2:Nat,∃v10j2:Nat,t 8=.int .i64 s8ax∧t 9=.buf 9 v9j2 1 0 (l9j2).length∧t 10=.buf 10 v10j2 1 0 (r19).length∧H 9=some ⟨v9j2,3,ab (eI .i64) l9j2,false,true,false⟩∧H 10=some ⟨v10j2,3,ab (eI .i64) r19,false,true,false⟩) (fun s=>s=o20) ?_ ?_
    ·rintro l9j2 t H e ⟨v9j2,v10j2,Zj2⟩ rfl
     try dsimp only at hh
     obtain⟨x21,hx21,hh⟩:=ae hh
     obtain⟨q22a,q22b,q22c,q22d,q22e⟩:=mk_one (eI .i64) hx21
     simp only[bU]at q22d
     try simp only[a6,seval,-Int.reduceToNat,hr1,i14,hr15,q17a,q17b,q17c,q17d,i18,hr19,Zj2,q22a,q22b,q22c,q22d,q22e]
     obtain⟨o58,ho58,hh⟩:=ae hh
     refine aB (fun s t H e=>match s with|(s13c,l9c,l12c)=>∃v9c:Nat,∃v10c:Nat,∃v12c:Nat,∃z10c:Bool,t 8=.int .i64 s8ax∧t 9=.buf 9 v9c 1 0 (l9c).length∧t 10=.buf 10 v10c 1 0 (r19).length∧t 11=.int .i64 ((r19).length:Int)∧t 12=.buf 12 v12c 1 0 (l12c).length∧t 13=.int .i64 s13c∧H 9=some ⟨v9c,3,ab (eI .i64) l9c,false,true,false⟩∧H 10=some ⟨v10c,3,ab (eI .i64) r19,z10c,true,false⟩∧H 12=some ⟨v12c,3,ab (eI .i64) l12c,false,true,false⟩) (fun o x t H e=>match o with|(l9cx,l12cx)=>x=.exit 2∧∃v9cx:Nat,∃v12cx:Nat,t 8=.int .i64 s8ax∧t 9=.buf 9 v9cx 1 0 (l9cx).length∧t 12=.buf 12 v12cx 1 0 (l12cx).length∧H 9=some ⟨v9cx,3,ab (eI .i64) l9cx,false,true,false⟩∧H 12=some ⟨v12cx,3,ab (eI .i64) l12cx,false,true,false⟩) ho58 ?_ ?_ ?_
     ·refine⟨v9j2,v10j2,e+1,false,?_,?_,?_,?_,?_,?_,?_,?_,?_⟩
      all_goals first|rfl|(simp only[a6,seval,-Int.reduceToNat,hr1,i14,hr15,q17a,q17b,q17c,q17d,i18,hr19,Zj2,q22a,q22b,q22c,q22d,q22e]<;>rfl)
     ·rintro⟨s13c,l9c,l12c⟩ t H e ⟨v9c,v10c,v12c,z10c,Zc⟩ c hh
      simp only[qt]at hh
      try simp only[a6,seval,-Int.reduceToNat,hr1,i14,hr15,q17a,q17b,q17c,q17d,i18,hr19,q22a,q22b,q22c,q22d,q22e,Zc]
      refine sp an hh (fun _ hh =>?_) (fun _ hh =>?_)
      ·obtain⟨x60,hx60,hh⟩:=ae hh
       have ax60:=bF (eI .i64) hx60
       simp only[bU]at ax60
       obtain⟨x61,hx61,hh⟩:=ae hh
       have q62:=Ay hx61
       obtain⟨x63,hx63,hh⟩:=ae hh
       have ax63:=bF (eI .i64) hx63
       simp only[bU]at ax63
       try simp only[a6,seval,-Int.reduceToNat,hr1,i14,hr15,q17a,q17b,q17c,q17d,i18,hr19,q22a,q22b,q22c,q22d,q22e,Zc,ax60,q62,ax63]
       refine bX (by kernel_rfl) ?_
       obtain⟨x64,hx64,hh⟩:=ae hh
       have ax64:=bF (eI .i64) hx64
       simp only[bU]at ax64
       obtain⟨x65,hx65,hh⟩:=ae hh
       have q66:=qz hx65
       have ax64:=bF (eI .i64) hx64
       simp only[bU]at ax64
       obtain⟨x67,hx67,hh⟩:=ae hh
       have q68:=oR hx67
       try simp only[a6,seval,-Int.reduceToNat,hr1,i14,hr15,q17a,q17b,q17c,q17d,i18,hr19,q22a,q22b,q22c,q22d,q22e,Zc,ax60,q62,ax63,ax64,q66,ax64,q68]
       refine bX (by kernel_rfl) ?_
       try simp only[a6,seval,-Int.reduceToNat,hr1,i14,hr15,q17a,q17b,q17c,q17d,i18,hr19,q22a,q22b,q22c,q22d,q22e,Zc,ax60,q62,ax63,ax64,q66,ax64,q68]
       obtain⟨o78,ho78,hh⟩:=ae hh
       refine aB (fun s t H e=>match s with|(s15g,s16g)=>∃v9g:Nat,∃v10g:Nat,∃v12g:Nat,∃z10g:Bool,t 8=.int .i64 s8ax∧t 9=.buf 9 v9g 1 0 (l9c).length∧t 10=.buf 10 v10g 1 0 (r19).length∧t 11=.int .i64 ((r19).length:Int)∧t 12=.buf 12 v12g 1 0 (l12c).length∧t 13=.int .i64 s13c∧t 15=.int .i64 s15g∧t 16=.int .i64 s16g∧H 9=some ⟨v9g,3,ab (eI .i64) l9c,false,true,false⟩∧H 10=some ⟨v10g,3,ab (eI .i64) r19,z10g,true,false⟩∧H 12=some ⟨v12g,3,ab (eI .i64) l12c,false,true,false⟩) (fun o x t H e=>match o with|s15gx=>x=.exit 4∧∃v9gx:Nat,∃v10gx:Nat,∃v12gx:Nat,∃z10gx:Bool,t 8=.int .i64 s8ax∧t 9=.buf 9 v9gx 1 0 (l9c).length∧t 10=.buf 10 v10gx 1 0 (r19).length∧t 11=.int .i64 ((r19).length:Int)∧t 12=.buf 12 v12gx 1 0 (l12c).length∧t 13=.int .i64 s13c∧t 15=.int .i64 s15gx∧H 9=some ⟨v9gx,3,ab (eI .i64) l9c,false,true,false⟩∧H 10=some ⟨v10gx,3,ab (eI .i64) r19,z10gx,true,false⟩∧H 12=some ⟨v12gx,3,ab (eI .i64) l12c,false,true,false⟩) ho78 ?_ ?_ ?_
       ·refine⟨v9c,v10c,v12c,z10c,?_,?_,?_,?_,?_,?_,?_,?_,?_,?_,?_⟩
        all_goals first|rfl|(simp only[a6,seval,-Int.reduceToNat,hr1,i14,hr15,q17a,q17b,q17c,q17d,i18,hr19,q22a,q22b,q22c,q22d,q22e,Zc,ax60,q62,ax63,ax64,q66,ax64,q68]<;>rfl)
       ·rintro⟨s15g,s16g⟩ t H e ⟨v9g,v10g,v12g,z10g,Zg⟩ c hh
        simp only[qu]at hh
        try simp only[a6,seval,-Int.reduceToNat,hr1,i14,hr15,q17a,q17b,q17c,q17d,i18,hr19,q22a,q22b,q22c,q22d,q22e,ax60,q62,ax63,ax64,q66,ax64,q68,Zg]
        obtain⟨o79,ho79,hh⟩:=ae hh
        refine C8 0 (fun s t H e=>match s with|s137j9=>∃v9j9:Nat,∃v10j9:Nat,∃v12j9:Nat,∃z10j9:Bool,t 8=.int .i64 s8ax∧t 9=.buf 9 v9j9 1 0 (l9c).length∧t 10=.buf 10 v10j9 1 0 (r19).length∧t 11=.int .i64 ((r19).length:Int)∧t 12=.buf 12 v12j9 1 0 (l12c).length∧t 13=.int .i64 s13c∧t 15=.int .i64 s15g∧t 16=.int .i64 s16g∧t 137=.bool s137j9∧H 9=some ⟨v9j9,3,ab (eI .i64) l9c,false,true,false⟩∧H 10=some ⟨v10j9,3,ab (eI .i64) r19,z10j9,true,false⟩∧H 12=some ⟨v12j9,3,ab (eI .i64) l12c,false,true,false⟩) (fun s=>s=o79) ?_ ?_
        ·rintro s137j9 t H e ⟨v9j9,v10j9,v12j9,z10j9,Zj9⟩ rfl
         try dsimp only at hh
         try simp only[a6,seval,-Int.reduceToNat,hr1,i14,hr15,q17a,q17b,q17c,q17d,i18,hr19,q22a,q22b,q22c,q22d,q22e,ax60,q62,ax63,ax64,q66,ax64,q68,Zj9]
         refine sp an hh (fun _ hh =>?_) (fun _ hh =>?_)
         ·have ax64:=bF (eI .i64) hx64
          simp only[bU]at ax64
          cases hh
          try simp only[a6,seval,-Int.reduceToNat,hr1,i14,hr15,q17a,q17b,q17c,q17d,i18,hr19,q22a,q22b,q22c,q22d,q22e,ax60,q62,ax63,ax64,q66,ax64,q68,Zj9,ax64]
          refine iS ?_
          refine⟨v9j9,v10j9,v12j9,z10j9,?_,?_,?_,?_,?_,?_,?_,?_,?_,?_,?_⟩
          all_goals first|rfl|(simp only[a6,seval,-Int.reduceToNat,hr1,i14,hr15,q17a,q17b,q17c,q17d,i18,hr19,q22a,q22b,q22c,q22d,q22e,ax60,q62,ax63,ax64,q66,ax64,q68,Zj9,ax64]<;>rfl)
         ·cases hh
          try simp only[a6,seval,-Int.reduceToNat,hr1,i14,hr15,q17a,q17b,q17c,q17d,i18,hr19,q22a,q22b,q22c,q22d,q22e,ax60,q62,ax63,ax64,q66,ax64,q68,Zj9]
          refine ki ?_
          refine⟨rfl,⟨v9j9,v10j9,v12j9,z10j9,?_,?_,?_,?_,?_,?_,?_,?_,?_,?_⟩⟩
          all_goals first|rfl|(simp only[a6,seval,-Int.reduceToNat,hr1,i14,hr15,q17a,q17b,q17c,q17d,i18,hr19,q22a,q22b,q22c,q22d,q22e,ax60,q62,ax63,ax64,q66,ax64,q68,Zj9]<;>rfl)
        ·clear hh
         have hh:=ho79
         try simp only[a6,seval,-Int.reduceToNat,hr1,i14,hr15,q17a,q17b,q17c,q17d,i18,hr19,q22a,q22b,q22c,q22d,q22e,ax60,q62,ax63,ax64,q66,ax64,q68,Zg]
         refine sp TU hh (fun _ hh =>?_) (fun _ hh =>?_)
         ·try simp only[a6,seval,-Int.reduceToNat,hr1,i14,hr15,q17a,q17b,q17c,q17d,i18,hr19,q22a,q22b,q22c,q22d,q22e,ax60,q62,ax63,ax64,q66,ax64,q68,Zg]
          refine bX (by kernel_rfl) ?_
          cases hh
          try simp only[a6,seval,-Int.reduceToNat,hr1,i14,hr15,q17a,q17b,q17c,q17d,i18,hr19,q22a,q22b,q22c,q22d,q22e,ax60,q62,ax63,ax64,q66,ax64,q68,Zg]
          rw[al]
          refine⟨_,rfl,?_⟩
          refine⟨v9g,v10g,v12g,z10g,?_,?_,?_,?_,?_,?_,?_,?_,?_,?_,?_,?_⟩
          all_goals first|rfl|(simp only[a6,seval,-Int.reduceToNat,hr1,i14,hr15,q17a,q17b,q17c,q17d,i18,hr19,q22a,q22b,q22c,q22d,q22e,ax60,q62,ax63,ax64,q66,ax64,q68,Zg]<;>rfl)
         ·try simp only[a6,seval,-Int.reduceToNat,hr1,i14,hr15,q17a,q17b,q17c,q17d,i18,hr19,q22a,q22b,q22c,q22d,q22e,ax60,q62,ax63,ax64,q66,ax64,q68,Zg]
          refine sp ji hh (fun _ hh =>?_) (fun _ hh =>?_)
          ·obtain⟨x83,hx83,hh⟩:=ae hh
           have ax83:=bF (eI .i64) hx83
           simp only[bU]at ax83
           obtain⟨x84,hx84,hh⟩:=ae hh
           have q85:=Ay hx84
           obtain⟨x86,hx86,hh⟩:=ae hh
           have ax86:=bF (eI .i64) hx86
           simp only[bU]at ax86
           try simp only[a6,seval,-Int.reduceToNat,hr1,i14,hr15,q17a,q17b,q17c,q17d,i18,hr19,q22a,q22b,q22c,q22d,q22e,ax60,q62,ax63,ax64,q66,ax64,q68,Zg,ax83,q85,ax86]
           refine bX (by kernel_rfl) ?_
           cases hh
           try simp only[a6,seval,-Int.reduceToNat,hr1,i14,hr15,q17a,q17b,q17c,q17d,i18,hr19,q22a,q22b,q22c,q22d,q22e,ax60,q62,ax63,ax64,q66,ax64,q68,Zg,ax83,q85,ax86]
           rw[al]
           refine⟨_,rfl,?_⟩
           refine⟨v9g,v10g,v12g,z10g,?_,?_,?_,?_,?_,?_,?_,?_,?_,?_,?_,?_⟩
           all_goals first|rfl|(simp only[a6,seval,-Int.reduceToNat,hr1,i14,hr15,q17a,q17b,q17c,q17d,i18,hr19,q22a,q22b,q22c,q22d,q22e,ax60,q62,ax63,ax64,q66,ax64,q68,Zg,ax83,q85,ax86]<;>rfl)
          ·try simp only[a6,seval,-Int.reduceToNat,hr1,i14,hr15,q17a,q17b,q17c,q17d,i18,hr19,q22a,q22b,q22c,q22d,q22e,ax60,q62,ax63,ax64,q66,ax64,q68,Zg]
           refine bX (by kernel_rfl) ?_
           cases hh
           try simp only[a6,seval,-Int.reduceToNat,hr1,i14,hr15,q17a,q17b,q17c,q17d,i18,hr19,q22a,q22b,q22c,q22d,q22e,ax60,q62,ax63,ax64,q66,ax64,q68,Zg]
           rw[al]
           refine⟨_,rfl,?_⟩
           refine⟨v9g,v10g,v12g,z10g,?_,?_,?_,?_,?_,?_,?_,?_,?_,?_,?_,?_⟩
           all_goals first|rfl|(simp only[a6,seval,-Int.reduceToNat,hr1,i14,hr15,q17a,q17b,q17c,q17d,i18,hr19,q22a,q22b,q22c,q22d,q22e,ax60,q62,ax63,ax64,q66,ax64,q68,Zg]<;>rfl)
       ·rintro x t H e hx
        obtain⟨s15gx,rfl⟩:∃z,z=o78:=⟨_,rfl⟩
        dsimp only at hx hh
        obtain⟨rfl,⟨v9gx,v10gx,v12gx,z10gx,Zgx⟩⟩:=hx
        obtain⟨x87,hx87,hh⟩:=ae hh
        obtain⟨q88a,q88b,q88c,q88d,q88e⟩:=Ww (eI .i64) hx87
        simp only[bU]at q88e
        have i89:=Cy (ab (eI .i64) (l9c.take (s13c).toNat)) (ab (eI .i64) (l9c.drop (IntKind.i64.wrap ((IntKind.i64.wrap (s13c+((r19).length:Int)))+1)).toNat)) x87 r19 s15gx
        simp only[U9,Va (eI .i64) hx87,Vb (eI .i64) hx87,VU hx87,bU,Int.toNat_zero,Nat.zero_mul,Nat.sub_zero]at i89
        obtain⟨r90,hr90,hh⟩:=ae hh
        have q91l:=yj hr90
        have q91m:=T0 hx87 q91l
        obtain⟨x92,hx92,hh⟩:=ae hh
        have ax92:=bF (eI .i64) hx92
        simp only[bU]at ax92
        have p93:=jH (eI .i64) (x':=r90.2) (fo:=0) (cs:=[.int .i64 r90.2]) hx92 rfl (Nat.le_of_ble_eq_true rfl)
        simp only[bU,Nat.add_zero]at p93
        have up93:=p93
        simp only[putCells,List.length_cons,List.length_nil,Nat.zero_add,Nat.reduceAdd]at up93
        cases hh
        try simp only[a6,seval,-Int.reduceToNat,hr1,i14,hr15,q17a,q17b,q17c,q17d,i18,hr19,q22a,q22b,q22c,q22d,q22e,ax60,q62,ax63,ax64,q66,ax64,q68,Zgx,q88a,q88b,q88c,q88e,i89,hr90,q91m,ax92,p93,up93]
        refine iS ?_
        refine⟨v9gx,v10gx,v12gx,true,?_,?_,?_,?_,?_,?_,?_,?_,?_⟩
        all_goals first|rfl|(simp only[a6,seval,-Int.reduceToNat,hr1,i14,hr15,q17a,q17b,q17c,q17d,i18,hr19,q22a,q22b,q22c,q22d,q22e,ax60,q62,ax63,ax64,q66,ax64,q68,Zgx,q88a,q88b,q88c,q88e,i89,hr90,q91m,ax92,p93,up93]<;>rfl)
      ·cases hh
       try simp only[a6,seval,-Int.reduceToNat,hr1,i14,hr15,q17a,q17b,q17c,q17d,i18,hr19,q22a,q22b,q22c,q22d,q22e,Zc]
       refine ki ?_
       refine⟨rfl,⟨v9c,v12c,?_,?_,?_,?_,?_⟩⟩
       all_goals first|rfl|(simp only[a6,seval,-Int.reduceToNat,hr1,i14,hr15,q17a,q17b,q17c,q17d,i18,hr19,q22a,q22b,q22c,q22d,q22e,Zc]<;>rfl)
     ·rintro x t H e hx
      rcases o58 with⟨l9cx,l12cx⟩
      dsimp only at hx hh
      obtain⟨rfl,⟨v9cx,v12cx,Zcx⟩⟩:=hx
      obtain⟨r94,hr94,hh⟩:=ae hh
      obtain⟨r95,hr95,hh⟩:=ae hh
      obtain⟨r96,hr96,hh⟩:=ae hh
      cases hh
      try simp only[a6,seval,-Int.reduceToNat,hr1,i14,hr15,q17a,q17b,q17c,q17d,i18,hr19,q22a,q22b,q22c,q22d,q22e,Zcx,hr94,hr95,hr96]
    ·clear hh
     have hh:=ho20
     try simp only[a6,seval,-Int.reduceToNat,hr1,Zax,i14,hr15,q17a,q17b,q17c,q17d,i18,hr19]
     refine sp an hh (fun _ hh =>?_) (fun _ hh =>?_)
     ·obtain⟨x98,hx98,hh⟩:=ae hh
      obtain⟨q99a,q99b,q99c,q99d⟩:=fD (eI .i64) hx98
      simp only[bU]at q99b
      cases hh
      try simp only[a6,seval,-Int.reduceToNat,hr1,Zax,i14,hr15,q17a,q17b,q17c,q17d,i18,hr19,q99a,q99b,q99c,q99d]
      rw[al]
      refine⟨_,rfl,?_⟩
      refine⟨e+1+1,e,?_,?_,?_,?_,?_⟩
      all_goals first|rfl|(simp only[a6,seval,-Int.reduceToNat,hr1,Zax,i14,hr15,q17a,q17b,q17c,q17d,i18,hr19,q99a,q99b,q99c,q99d]<;>rfl)
     ·cases hh
      try simp only[a6,seval,-Int.reduceToNat,hr1,Zax,i14,hr15,q17a,q17b,q17c,q17d,i18,hr19]
      rw[al]
      refine⟨_,rfl,?_⟩
      refine⟨e,e,?_,?_,?_,?_,?_⟩
      all_goals first|rfl|(simp only[a6,seval,-Int.reduceToNat,hr1,Zax,i14,hr15,q17a,q17b,q17c,q17d,i18,hr19]<;>rfl)
theorem MK:bN Tryz.prog 125 xE:=bN.of (mode := .clean) tok Ma mixed Tryz.func125 (by kernel_rfl) ⟨by kernel_rfl,by kernel_rfl⟩ (fun _=>Nat.le_of_ble_eq_true (by kernel_rfl)) (fun x r h=>P5 x.1 x.2 r h)
noncomputable def kl:=eB (dR (aI .i64) (dK (iG (eI .i64)))) (fun x:Int×(List Int)=>fv x.1 x.2) (fun r:az =>.clean (.agg [.int .i64 r.aj,.sl false false r.aa.length (ab (eI .i64) r.aa)]))
theorem je (p0:Int) (p1:(List Int)):kl none [.int .i64 p0,.sl false false p1.length (ab (eI .i64) p1)]=(fv p0 p1).map fun r:az=>(.clean (.agg [.int .i64 r.aj,.sl false false r.aa.length (ab (eI .i64) r.aa)]),none):=aJ _ _ _ (p0,p1)
noncomputable def mP:Env:=(Am.ext aU 163 false nH)
theorem Dr:bT Tryz.prog mP:=(bT.none.add tw false)
theorem rA:type_of% (ai @w<|ai @jO<|@mP.eq_1):=⟨@w,@jO,@mP.eq_1⟩
theorem G5 (p0:Int) (p1:(List Int)) (r:az) (hh:fv p0 p1=some r):aS .clean tab mP FU Tryz.f126 none [.int .i64 p0,.sl false false p1.length (ab (eI .i64) p1)]=some (.clean (.agg [.int .i64 r.aj,.sl false false r.aa.length (ab (eI .i64) r.aa)]),none):=by
 refine aw rfl Tryz.ntmps126 Tryz.results126 ?_
 unfold fv at hh
 obtain⟨r1,hr1,hh⟩:=ae hh
 try simp only[rA,seval,-Int.reduceToNat,hr1]
 refine sp an hh (fun _ hh =>?_) (fun _ hh =>?_)
 ·cases hh
  try simp only[rA,seval,-Int.reduceToNat,hr1]
 ·cases hh
  try simp only[rA,seval,-Int.reduceToNat,hr1]
theorem pt:bN Tryz.prog 126 kl:=bN.of (mode := .clean) tok Dr mixed Tryz.func126 (by kernel_rfl) ⟨by kernel_rfl,by kernel_rfl⟩ (fun _=>Nat.le_of_ble_eq_true (by kernel_rfl)) (fun x r h=>G5 x.1 x.2 r h)
noncomputable def xB:=eB (dR (cR iB) (dK (cR iB))) (fun x:az×az=>ql x.1 x.2) (fun r:az×Int =>.clean (.tup [.agg [.int .i64 r.1.aj,.sl false false r.1.aa.length (ab (eI .i64) r.1.aa)],.int .i64 r.2]))
theorem FJ (p0_0:Int) (p0_1:(List Int)) (p1_0:Int) (p1_1:(List Int)):xB none [.agg [.int .i64 p0_0,.sl false false p0_1.length (ab (eI .i64) p0_1)],.agg [.int .i64 p1_0,.sl false false p1_1.length (ab (eI .i64) p1_1)]]=(ql (az.mk p0_0 p0_1) (az.mk p1_0 p1_1)).map fun r:az×Int=>(.clean (.tup [.agg [.int .i64 r.1.aj,.sl false false r.1.aa.length (ab (eI .i64) r.1.aa)],.int .i64 r.2]),none):=aJ _ _ _ ((az.mk p0_0 p0_1),(az.mk p1_0 p1_1))
noncomputable def tV:Env:=(Am.keep 6 (Am.ext (Am.ext (Am.ext (Am.ext (Am.ext aU 65 false eP) 97 false iL) 124 false lH) 125 false xE) 126 false kl))
theorem L7:bT Tryz.prog tV:=(bT.keep (((((bT.none.add gU false).add kE false).add tu false).add MK false).add pt false) 6)
theorem dU:type_of% (ai @w<|ai @dD<|ai @fh<|ai @il<|ai @FM<|ai @je<|@tV.eq_1):=⟨@w,@dD,@fh,@il,@FM,@je,@tV.eq_1⟩
theorem P0 (p0:az) (p1:az) (r:az×Int) (hh:ql p0 p1=some r):aS .clean tab tV FU Tryz.f98 none [.agg [.int .i64 p0.aj,.sl false false p0.aa.length (ab (eI .i64) p0.aa)],.agg [.int .i64 p1.aj,.sl false false p1.aa.length (ab (eI .i64) p1.aa)]]=some (.clean (.tup [.agg [.int .i64 r.1.aj,.sl false false r.1.aa.length (ab (eI .i64) r.1.aa)],.int .i64 r.2]),none):=by
 refine aw rfl Tryz.ntmps98 Tryz.results98 ?_
 unfold ql at hh
 obtain⟨r1,hr1,hh⟩:=ae hh
 try simp only[dU,seval,-Int.reduceToNat,hr1]
 obtain⟨o2,ho2,hh⟩:=ae hh
 refine bH 0 (fun s t H e=>match s with|s17j1=>∃v2j1:Nat,∃v3j1:Nat,∃v4j1:Nat,t 2=.ptr 2 v2j1 0∧t 3=.ptr 3 v3j1 0∧t 4=.ptr 4 v4j1 0∧t 17=.bool s17j1∧H 2=some ⟨v2j1,49,[.int .i64 p0.aj,.sl false false p0.aa.length (ab (eI .i64) p0.aa)],false,false,false⟩∧H 3=some ⟨v3j1,49,[.int .i64 p1.aj,.sl false false p1.aa.length (ab (eI .i64) p1.aa)],false,false,false⟩∧H 4=some ⟨v4j1,49,[.int .i64 0,.sl true true 0 []],false,false,false⟩) (fun s=>s=o2) ?_ ?_
 ·rintro s17j1 t H e ⟨v2j1,v3j1,v4j1,Zj1⟩ rfl
  try dsimp only at hh
  try simp only[dU,seval,-Int.reduceToNat,hr1,Zj1]
  refine sp an hh (fun _ hh =>?_) (fun _ hh =>?_)
  ·have i4:=il false 0 ([])
   simp only[aM,bU,List.length_cons,List.length_nil,Nat.zero_add,Nat.reduceAdd,List.length_set]at i4
   obtain⟨r5,hr5,hh⟩:=ae hh
   cases hh
   try simp only[dU,seval,-Int.reduceToNat,hr1,Zj1,i4,hr5]
  ·obtain⟨r6,hr6,hh⟩:=ae hh
   try simp only[dU,seval,-Int.reduceToNat,hr1,Zj1,hr6]
   refine bX (by kernel_rfl) ?_
   try simp only[dU,seval,-Int.reduceToNat,hr1,Zj1,hr6]
   obtain⟨o9,ho9,hh⟩:=ae hh
   refine aB (fun s t H e=>match s with|(s6b,s7b)=>∃v4b:Nat,t 4=.ptr 4 v4b 0∧t 6=.sl false false s6b.length (ab (eI .i64) s6b)∧t 7=.sl false false s7b.length (ab (eI .i64) s7b)∧H 4=some ⟨v4b,49,[.int .i64 0,.sl true true 0 []],false,false,false⟩) (fun o x t H e=>match o with|s6bx=>x=.exit 0∧∃v4bx:Nat,t 4=.ptr 4 v4bx 0∧t 6=.sl false false s6bx.length (ab (eI .i64) s6bx)∧H 4=some ⟨v4bx,49,[.int .i64 0,.sl true true 0 []],false,false,false⟩) ho9 ?_ ?_ ?_
   ·refine⟨v4j1,?_,?_,?_,?_⟩
    all_goals first|rfl|(simp only[dU,seval,-Int.reduceToNat,hr1,Zj1,hr6]<;>rfl)
   ·rintro⟨s6b,s7b⟩ t H e ⟨v4b,Zb⟩ c hh
    simp only[nL]at hh
    try simp only[dU,seval,-Int.reduceToNat,hr1,hr6,Zb]
    refine sp an hh (fun _ hh =>?_) (fun _ hh =>?_)
    ·obtain⟨r11,hr11,hh⟩:=ae hh
     cases hh
     try simp only[dU,seval,-Int.reduceToNat,hr1,hr6,Zb,hr11]
     refine iS ?_
     refine⟨v4b,?_,?_,?_,?_⟩
     all_goals first|rfl|(simp only[dU,seval,-Int.reduceToNat,hr1,hr6,Zb,hr11]<;>rfl)
    ·cases hh
     try simp only[dU,seval,-Int.reduceToNat,hr1,hr6,Zb]
     refine ki ?_
     refine⟨rfl,⟨v4b,?_,?_,?_⟩⟩
     all_goals first|rfl|(simp only[dU,seval,-Int.reduceToNat,hr1,hr6,Zb]<;>rfl)
   ·rintro x t H e hx
    obtain⟨s6bx,rfl⟩:∃z,z=o9:=⟨_,rfl⟩
    dsimp only at hx hh
    obtain⟨rfl,⟨v4bx,Zbx⟩⟩:=hx
    obtain⟨r12,hr12,hh⟩:=ae hh
    obtain⟨r13,hr13,hh⟩:=ae hh
    obtain⟨r14,hr14,hh⟩:=ae hh
    cases hh
    try simp only[dU,seval,-Int.reduceToNat,hr1,hr6,Zbx,hr12,hr13,hr14]
 ·clear hh
  have hh:=ho2
  try simp only[dU,seval,-Int.reduceToNat,hr1]
  refine sp aR hh (fun _ hh =>?_) (fun _ hh =>?_)
  ·cases hh
   try simp only[dU,seval,-Int.reduceToNat,hr1]
   rw[al]
   refine⟨_,rfl,?_⟩
   refine⟨0,0,0,?_,?_,?_,?_,?_,?_,?_⟩
   all_goals first|rfl|(simp only[dU,seval,-Int.reduceToNat,hr1]<;>rfl)
  ·obtain⟨r16,hr16,hh⟩:=ae hh
   cases hh
   try simp only[dU,seval,-Int.reduceToNat,hr1,hr16]
   rw[al]
   refine⟨_,rfl,?_⟩
   refine⟨0,0,0,?_,?_,?_,?_,?_,?_,?_⟩
   all_goals first|rfl|(simp only[dU,seval,-Int.reduceToNat,hr1,hr16]<;>rfl)
theorem MH:bN Tryz.prog 98 xB:=bN.of (mode := .clean) tok L7 mixed Tryz.func98 (by kernel_rfl) ⟨by kernel_rfl,by kernel_rfl⟩ (fun _=>Nat.le_of_ble_eq_true (by kernel_rfl)) (fun x r h=>P0 x.1 x.2 r h)
noncomputable def xC:=eB (dK (cR iB)) (fun x:az=>qm x) (fun r:Int×Bool =>.clean (.tup [.int .i64 r.1,.bool r.2]))
theorem FK (p0_0:Int) (p0_1:(List Int)):xC none [.agg [.int .i64 p0_0,.sl false false p0_1.length (ab (eI .i64) p0_1)]]=(qm (az.mk p0_0 p0_1)).map fun r:Int×Bool=>(.clean (.tup [.int .i64 r.1,.bool r.2]),none):=aJ _ _ _ ((az.mk p0_0 p0_1))
noncomputable def tW:Env:=(Am.ext aU 97 false iL)
theorem L8:bT Tryz.prog tW:=(bT.none.add kE false)
theorem bA:type_of% (ai @w<|ai @fh<|@tW.eq_1):=⟨@w,@fh,@tW.eq_1⟩
theorem P3 (p0:az) (r:Int×Bool) (hh:qm p0=some r):aS .clean tab tW FU Tryz.f127 none [.agg [.int .i64 p0.aj,.sl false false p0.aa.length (ab (eI .i64) p0.aa)]]=some (.clean (.tup [.int .i64 r.1,.bool r.2]),none):=by
 refine aw rfl Tryz.ntmps127 Tryz.results127 ?_
 unfold qm at hh
 obtain⟨r1,hr1,hh⟩:=ae hh
 try simp only[bA,seval,-Int.reduceToNat,hr1]
 obtain⟨o2,ho2,hh⟩:=ae hh
 refine bH 0 (fun s t H e=>match s with|s15j1=>∃v1j1:Nat,t 1=.ptr 1 v1j1 0∧t 15=.bool s15j1∧H 1=some ⟨v1j1,49,[.int .i64 p0.aj,.sl false false p0.aa.length (ab (eI .i64) p0.aa)],false,false,false⟩) (fun s=>s=o2) ?_ ?_
 ·rintro s15j1 t H e ⟨v1j1,Zj1⟩ rfl
  try dsimp only at hh
  try simp only[bA,seval,-Int.reduceToNat,hr1,Zj1]
  refine sp an hh (fun _ hh =>?_) (fun _ hh =>?_)
  ·cases hh
   try simp only[bA,seval,-Int.reduceToNat,hr1,Zj1]
  ·try simp only[bA,seval,-Int.reduceToNat,hr1,Zj1]
   obtain⟨o11,ho11,hh⟩:=ae hh
   refine aB (fun s t H e=>match s with|(s4b,s19b)=>∃v1b:Nat,t 1=.ptr 1 v1b 0∧t 4=.int .u64 s4b∧t 17=.sl false false p0.aa.length (ab (eI .i64) p0.aa)∧t 18=.int .i64 (p0.aa.length:Int)∧t 19=.int .i64 s19b∧H 1=some ⟨v1b,49,[.int .i64 p0.aj,.sl false false p0.aa.length (ab (eI .i64) p0.aa)],false,false,false⟩) (fun o x t H e=>match o with|(.inl s4bx)=>x=.exit 0∧∃v1bx:Nat,t 1=.ptr 1 v1bx 0∧t 4=.int .u64 s4bx∧H 1=some ⟨v1bx,49,[.int .i64 p0.aj,.sl false false p0.aa.length (ab (eI .i64) p0.aa)],false,false,false⟩|(.inr r)=>x=.ret∧gj .clean tab none [.tmp 2,.tmp 3] ⟨t,H,e⟩=some (.clean (.tup [.int .i64 r.1,.bool r.2]),none)) ho11 ?_ ?_ ?_
   ·refine⟨v1j1,?_,?_,?_,?_,?_,?_⟩
    all_goals first|rfl|(simp only[bA,seval,-Int.reduceToNat,hr1,Zj1]<;>rfl)
   ·rintro⟨s4b,s19b⟩ t H e ⟨v1b,Zb⟩ c hh
    simp only[qn]at hh
    try simp only[bA,seval,-Int.reduceToNat,hr1,Zb]
    refine sp an hh (fun _ hh =>?_) (fun _ hh =>?_)
    ·obtain⟨x13,hx13,hh⟩:=ae hh
     have ax13:=bF (eI .i64) hx13
     simp only[bU]at ax13
     try simp only[bA,seval,-Int.reduceToNat,hr1,Zb,ax13]
     obtain⟨o14,ho14,hh⟩:=ae hh
     refine bH 0 (fun s t H e=>match s with|s29j4=>∃v1j4:Nat,t 1=.ptr 1 v1j4 0∧t 4=.int .u64 s4b∧t 5=.int .i64 s19b∧t 6=.int .i64 x13∧t 17=.sl false false p0.aa.length (ab (eI .i64) p0.aa)∧t 18=.int .i64 (p0.aa.length:Int)∧t 19=.int .i64 s19b∧t 29=.bool s29j4∧H 1=some ⟨v1j4,49,[.int .i64 p0.aj,.sl false false p0.aa.length (ab (eI .i64) p0.aa)],false,false,false⟩) (fun s=>s=o14) ?_ ?_
     ·rintro s29j4 t H e ⟨v1j4,Zj4⟩ rfl
      try dsimp only at hh
      try simp only[bA,seval,-Int.reduceToNat,hr1,ax13,Zj4]
      refine sp an hh (fun _ hh =>?_) (fun _ hh =>?_)
      ·cases hh
       try simp only[bA,seval,-Int.reduceToNat,hr1,ax13,Zj4]
       refine ti ⟨rfl,?_⟩
       try simp only[bA,seval,-Int.reduceToNat,hr1,ax13,Zj4]
      ·obtain⟨x16,hx16,hh⟩:=ae hh
       have q17:=Ay hx16
       cases hh
       try simp only[bA,seval,-Int.reduceToNat,hr1,ax13,Zj4,q17]
       refine iS ?_
       refine⟨v1j4,?_,?_,?_,?_,?_,?_⟩
       all_goals first|rfl|(simp only[bA,seval,-Int.reduceToNat,hr1,ax13,Zj4,q17]<;>rfl)
     ·clear hh
      have hh:=ho14
      try simp only[bA,seval,-Int.reduceToNat,hr1,Zb,ax13]
      refine sp bk hh (fun _ hh =>?_) (fun _ hh =>?_)
      ·cases hh
       try simp only[bA,seval,-Int.reduceToNat,hr1,Zb,ax13]
       rw[al]
       refine⟨_,rfl,?_⟩
       refine⟨v1b,?_,?_,?_,?_,?_,?_,?_,?_,?_⟩
       all_goals first|rfl|(simp only[bA,seval,-Int.reduceToNat,hr1,Zb,ax13]<;>rfl)
      ·cases hh
       try simp only[bA,seval,-Int.reduceToNat,hr1,Zb,ax13]
       rw[al]
       refine⟨_,rfl,?_⟩
       refine⟨v1b,?_,?_,?_,?_,?_,?_,?_,?_,?_⟩
       all_goals first|rfl|(simp only[bA,seval,-Int.reduceToNat,hr1,Zb,ax13]<;>rfl)
    ·cases hh
     try simp only[bA,seval,-Int.reduceToNat,hr1,Zb]
     refine ki ?_
     refine⟨rfl,⟨v1b,?_,?_,?_⟩⟩
     all_goals first|rfl|(simp only[bA,seval,-Int.reduceToNat,hr1,Zb]<;>rfl)
   ·rintro x t H e hx
    rcases o11 with s4bx|rb
    ·dsimp only at hx hh
     obtain⟨rfl,⟨v1bx,Zbx⟩⟩:=hx
     try simp only[bA,seval,-Int.reduceToNat,hr1,Zbx]
     obtain⟨o19,ho19,hh⟩:=ae hh
     refine bH 0 (fun s t H e=>match s with|s38j5=>∃v1j5:Nat,t 1=.ptr 1 v1j5 0∧t 4=.int .u64 s4bx∧t 38=.bool s38j5∧H 1=some ⟨v1j5,49,[.int .i64 p0.aj,.sl false false p0.aa.length (ab (eI .i64) p0.aa)],false,false,false⟩) (fun s=>s=o19) ?_ ?_
     ·rintro s38j5 t H e ⟨v1j5,Zj5⟩ rfl
      try dsimp only at hh
      try simp only[bA,seval,-Int.reduceToNat,hr1,Zj5]
      refine sp an hh (fun _ hh =>?_) (fun _ hh =>?_)
      ·cases hh
       try simp only[bA,seval,-Int.reduceToNat,hr1,Zj5]
      ·try simp only[bA,seval,-Int.reduceToNat,hr1,Zj5]
       refine sp bk hh (fun _ hh =>?_) (fun _ hh =>?_)
       ·try simp only[bA,seval,-Int.reduceToNat,hr1,Zj5]
        refine sp an hh (fun _ hh =>?_) (fun _ hh =>?_)
        ·cases hh
         try simp only[bA,seval,-Int.reduceToNat,hr1,Zj5]
        ·cases hh
         try simp only[bA,seval,-Int.reduceToNat,hr1,Zj5]
       ·cases hh
        try simp only[bA,seval,-Int.reduceToNat,hr1,Zj5]
     ·clear hh
      have hh:=ho19
      try simp only[bA,seval,-Int.reduceToNat,hr1,Zbx]
      refine sp bk hh (fun _ hh =>?_) (fun _ hh =>?_)
      ·cases hh
       try simp only[bA,seval,-Int.reduceToNat,hr1,Zbx]
       rw[al]
       refine⟨_,rfl,?_⟩
       refine⟨v1bx,?_,?_,?_,?_⟩
       all_goals first|rfl|(simp only[bA,seval,-Int.reduceToNat,hr1,Zbx]<;>rfl)
      ·cases hh
       try simp only[bA,seval,-Int.reduceToNat,hr1,Zbx]
       rw[al]
       refine⟨_,rfl,?_⟩
       refine⟨v1bx,?_,?_,?_,?_⟩
       all_goals first|rfl|(simp only[bA,seval,-Int.reduceToNat,hr1,Zbx]<;>rfl)
    ·dsimp only at hx hh
     obtain⟨rfl,hE⟩:=hx
     cases hh
     try simp only[bq,bc,bC,cP,cO]
     exact hE
 ·clear hh
  have hh:=ho2
  try simp only[bA,seval,-Int.reduceToNat,hr1]
  refine sp aR hh (fun _ hh =>?_) (fun _ hh =>?_)
  ·cases hh
   try simp only[bA,seval,-Int.reduceToNat,hr1]
   rw[al]
   refine⟨_,rfl,?_⟩
   refine⟨0,?_,?_,?_⟩
   all_goals first|rfl|(simp only[bA,seval,-Int.reduceToNat,hr1]<;>rfl)
  ·cases hh
   try simp only[bA,seval,-Int.reduceToNat,hr1]
   rw[al]
   refine⟨_,rfl,?_⟩
   refine⟨0,?_,?_,?_⟩
   all_goals first|rfl|(simp only[bA,seval,-Int.reduceToNat,hr1]<;>rfl)
theorem MI:bN Tryz.prog 127 xC:=bN.of (mode := .clean) tok L8 mixed Tryz.func127 (by kernel_rfl) ⟨by kernel_rfl,by kernel_rfl⟩ (fun _=>Nat.le_of_ble_eq_true (by kernel_rfl)) (fun x r h=>P3 x r h)
noncomputable def vA:=eB (dK (cR iB)) (fun x:az=>nZ x) (fun r:Bool =>.clean (.bool r))
theorem CB (p0_0:Int) (p0_1:(List Int)):vA none [.agg [.int .i64 p0_0,.sl false false p0_1.length (ab (eI .i64) p0_1)]]=(nZ (az.mk p0_0 p0_1)).map fun r:Bool=>(.clean (.bool r),none):=aJ _ _ _ ((az.mk p0_0 p0_1))
noncomputable def qD:Env:=(Am.ext aU 127 false xC)
theorem Jo:bT Tryz.prog qD:=(bT.none.add MI false)
theorem vZ:type_of% (ai @w<|ai @FK<|@qD.eq_1):=⟨@w,@FK,@qD.eq_1⟩
theorem Mv (p0:az) (r:Bool) (hh:nZ p0=some r):aS .clean tab qD FU Tryz.f99 none [.agg [.int .i64 p0.aj,.sl false false p0.aa.length (ab (eI .i64) p0.aa)]]=some (.clean (.bool r),none):=by
 refine aw rfl Tryz.ntmps99 Tryz.results99 ?_
 unfold nZ at hh
 obtain⟨r1,hr1,hh⟩:=ae hh
 try simp only[vZ,seval,-Int.reduceToNat,hr1]
 refine sp bk hh (fun _ hh =>?_) (fun _ hh =>?_)
 ·cases hh
  try simp only[vZ,seval,-Int.reduceToNat,hr1]
 ·cases hh
  try simp only[vZ,seval,-Int.reduceToNat,hr1]
theorem KF:bN Tryz.prog 99 vA:=bN.of (mode := .clean) tok Jo mixed Tryz.func99 (by kernel_rfl) ⟨by kernel_rfl,by kernel_rfl⟩ (fun _=>Nat.le_of_ble_eq_true (by kernel_rfl)) (fun x r h=>Mv x r h)
noncomputable def kn:=eB (dK (cR mz)) (fun x:ba=>eR x) (fun r:Bool =>.clean (.bool r))
theorem jf (p0_0:Int) (p0_1:(List Int)) (p0_2:Int) (p0_3:(List Int)):kn none [.agg [.int .i64 p0_0,.sl false false p0_1.length (ab (eI .i64) p0_1),.int .i64 p0_2,.sl false false p0_3.length (ab (eI .i64) p0_3)]]=(eR (ba.mk (az.mk p0_0 p0_1) (az.mk p0_2 p0_3))).map fun r:Bool=>(.clean (.bool r),none):=aJ _ _ _ ((ba.mk (az.mk p0_0 p0_1) (az.mk p0_2 p0_3)))
noncomputable def mQ:Env:=(Am.ext (Am.ext (Am.ext aU 97 false iL) 98 false xB) 99 false vA)
theorem Dt:bT Tryz.prog mQ:=(((bT.none.add kE false).add MH false).add KF false)
theorem df:type_of% (ai @w<|ai @fh<|ai @FJ<|ai @CB<|@mQ.eq_1):=⟨@w,@fh,@FJ,@CB,@mQ.eq_1⟩
theorem G7 (p0:ba) (r:Bool) (hh:eR p0=some r):aS .clean tab mQ FU Tryz.f57 none [.agg [.int .i64 p0.cz.aj,.sl false false p0.cz.aa.length (ab (eI .i64) p0.cz.aa),.int .i64 p0.cw.aj,.sl false false p0.cw.aa.length (ab (eI .i64) p0.cw.aa)]]=some (.clean (.bool r),none):=by
 refine aw rfl Tryz.ntmps57 Tryz.results57 ?_
 unfold eR at hh
 obtain⟨r1,hr1,hh⟩:=ae hh
 try simp only[df,seval,-Int.reduceToNat,hr1]
 obtain⟨o2,ho2,hh⟩:=ae hh
 refine bH 0 (fun s t H e=>match s with|s20j1=>∃v1j1:Nat,t 1=.ptr 1 v1j1 0∧t 20=.bool s20j1∧H 1=some ⟨v1j1,51,[.int .i64 p0.cz.aj,.sl false false p0.cz.aa.length (ab (eI .i64) p0.cz.aa),.int .i64 p0.cw.aj,.sl false false p0.cw.aa.length (ab (eI .i64) p0.cw.aa)],false,false,false⟩) (fun s=>s=o2) ?_ ?_
 ·rintro s20j1 t H e ⟨v1j1,Zj1⟩ rfl
  try dsimp only at hh
  try simp only[df,seval,-Int.reduceToNat,hr1,Zj1]
  refine sp an hh (fun _ hh =>?_) (fun _ hh =>?_)
  ·cases hh
   try simp only[df,seval,-Int.reduceToNat,hr1,Zj1]
  ·obtain⟨r4,hr4,hh⟩:=ae hh
   try simp only[df,seval,-Int.reduceToNat,hr1,Zj1,hr4]
   refine sp bk hh (fun _ hh =>?_) (fun _ hh =>?_)
   ·obtain⟨r6,hr6,hh⟩:=ae hh
    cases hh
    try simp only[df,seval,-Int.reduceToNat,hr1,Zj1,hr4,hr6]
   ·cases hh
    try simp only[df,seval,-Int.reduceToNat,hr1,Zj1,hr4]
 ·clear hh
  have hh:=ho2
  try simp only[df,seval,-Int.reduceToNat,hr1]
  refine sp aR hh (fun _ hh =>?_) (fun _ hh =>?_)
  ·cases hh
   try simp only[df,seval,-Int.reduceToNat,hr1]
   rw[al]
   refine⟨_,rfl,?_⟩
   refine⟨0,?_,?_,?_⟩
   all_goals first|rfl|(simp only[df,seval,-Int.reduceToNat,hr1]<;>rfl)
  ·obtain⟨r8,hr8,hh⟩:=ae hh
   try simp only[df,seval,-Int.reduceToNat,hr1,hr8]
   refine sp aR hh (fun _ hh =>?_) (fun _ hh =>?_)
   ·cases hh
    try simp only[df,seval,-Int.reduceToNat,hr1,hr8]
    rw[al]
    refine⟨_,rfl,?_⟩
    refine⟨0,?_,?_,?_⟩
    all_goals first|rfl|(simp only[df,seval,-Int.reduceToNat,hr1,hr8]<;>rfl)
   ·cases hh
    try simp only[df,seval,-Int.reduceToNat,hr1,hr8]
    rw[al]
    refine⟨_,rfl,?_⟩
    refine⟨0,?_,?_,?_⟩
    all_goals first|rfl|(simp only[df,seval,-Int.reduceToNat,hr1,hr8]<;>rfl)
theorem py:bN Tryz.prog 57 kn:=bN.of (mode := .clean) tok Dt mixed Tryz.func57 (by kernel_rfl) ⟨by kernel_rfl,by kernel_rfl⟩ (fun _=>Nat.le_of_ble_eq_true (by kernel_rfl)) (fun x r h=>G7 x r h)
noncomputable def xD:=eB (dR (cR iB) (dK (cR iB))) (fun x:az×az=>qo x.1 x.2) (fun r:az×Int =>.clean (.tup [.agg [.int .i64 r.1.aj,.sl false false r.1.aa.length (ab (eI .i64) r.1.aa)],.int .i64 r.2]))
theorem FL (p0_0:Int) (p0_1:(List Int)) (p1_0:Int) (p1_1:(List Int)):xD none [.agg [.int .i64 p0_0,.sl false false p0_1.length (ab (eI .i64) p0_1)],.agg [.int .i64 p1_0,.sl false false p1_1.length (ab (eI .i64) p1_1)]]=(qo (az.mk p0_0 p0_1) (az.mk p1_0 p1_1)).map fun r:az×Int=>(.clean (.tup [.agg [.int .i64 r.1.aj,.sl false false r.1.aa.length (ab (eI .i64) r.1.aa)],.int .i64 r.2]),none):=aJ _ _ _ ((az.mk p0_0 p0_1),(az.mk p1_0 p1_1))
noncomputable def tX:Env:=(Am.ext (Am.ext (Am.ext (Am.ext aU 97 false iL) 124 false lH) 126 false kl) 164 false tK)
theorem L9:bT Tryz.prog tX:=((((bT.none.add kE false).add tu false).add pt false).add Cr false)
theorem iw:type_of% (ai @w<|ai @fh<|ai @il<|ai @je<|ai @nC<|@tX.eq_1):=⟨@w,@fh,@il,@je,@nC,@tX.eq_1⟩
theorem P4 (p0:az) (p1:az) (r:az×Int) (hh:qo p0 p1=some r):aS .clean tab tX FU Tryz.f130 none [.agg [.int .i64 p0.aj,.sl false false p0.aa.length (ab (eI .i64) p0.aa)],.agg [.int .i64 p1.aj,.sl false false p1.aa.length (ab (eI .i64) p1.aa)]]=some (.clean (.tup [.agg [.int .i64 r.1.aj,.sl false false r.1.aa.length (ab (eI .i64) r.1.aa)],.int .i64 r.2]),none):=by
 refine aw rfl Tryz.ntmps130 Tryz.results130 ?_
 unfold qo at hh
 obtain⟨r1,hr1,hh⟩:=ae hh
 try simp only[iw,seval,-Int.reduceToNat,hr1]
 obtain⟨o2,ho2,hh⟩:=ae hh
 refine bH 0 (fun s t H e=>match s with|s13j1=>∃v2j1:Nat,∃v3j1:Nat,∃v4j1:Nat,t 2=.ptr 2 v2j1 0∧t 3=.ptr 3 v3j1 0∧t 4=.ptr 4 v4j1 0∧t 13=.bool s13j1∧H 2=some ⟨v2j1,49,[.int .i64 p0.aj,.sl false false p0.aa.length (ab (eI .i64) p0.aa)],false,false,false⟩∧H 3=some ⟨v3j1,49,[.int .i64 p1.aj,.sl false false p1.aa.length (ab (eI .i64) p1.aa)],false,false,false⟩∧H 4=some ⟨v4j1,49,[.int .i64 0,.sl true true 0 []],false,false,false⟩) (fun s=>s=o2) ?_ ?_
 ·rintro s13j1 t H e ⟨v2j1,v3j1,v4j1,Zj1⟩ rfl
  try dsimp only at hh
  try simp only[iw,seval,-Int.reduceToNat,hr1,Zj1]
  refine sp an hh (fun _ hh =>?_) (fun _ hh =>?_)
  ·have i4:=il false 0 ([])
   simp only[aM,bU,List.length_cons,List.length_nil,Nat.zero_add,Nat.reduceAdd,List.length_set]at i4
   obtain⟨r5,hr5,hh⟩:=ae hh
   cases hh
   try simp only[iw,seval,-Int.reduceToNat,hr1,Zj1,i4,hr5]
  ·obtain⟨r6,hr6,hh⟩:=ae hh
   obtain⟨r7,hr7,hh⟩:=ae hh
   obtain⟨r8,hr8,hh⟩:=ae hh
   try simp only[iw,seval,-Int.reduceToNat,hr1,Zj1,hr6,hr7,hr8]
   refine bX (by kernel_rfl) ?_
   cases hh
   try simp only[iw,seval,-Int.reduceToNat,hr1,Zj1,hr6,hr7,hr8]
 ·clear hh
  have hh:=ho2
  try simp only[iw,seval,-Int.reduceToNat,hr1]
  refine sp aR hh (fun _ hh =>?_) (fun _ hh =>?_)
  ·cases hh
   try simp only[iw,seval,-Int.reduceToNat,hr1]
   rw[al]
   refine⟨_,rfl,?_⟩
   refine⟨0,0,0,?_,?_,?_,?_,?_,?_,?_⟩
   all_goals first|rfl|(simp only[iw,seval,-Int.reduceToNat,hr1]<;>rfl)
  ·obtain⟨r10,hr10,hh⟩:=ae hh
   cases hh
   try simp only[iw,seval,-Int.reduceToNat,hr1,hr10]
   rw[al]
   refine⟨_,rfl,?_⟩
   refine⟨0,0,0,?_,?_,?_,?_,?_,?_,?_⟩
   all_goals first|rfl|(simp only[iw,seval,-Int.reduceToNat,hr1,hr10]<;>rfl)
theorem MJ:bN Tryz.prog 130 xD:=bN.of (mode := .clean) tok L9 mixed Tryz.func130 (by kernel_rfl) ⟨by kernel_rfl,by kernel_rfl⟩ (fun _=>Nat.le_of_ble_eq_true (by kernel_rfl)) (fun x r h=>P4 x.1 x.2 r h)
noncomputable def pV:=eB (dR (cR iB) (dK (cR iB))) (fun x:az×az=>fX x.1 x.2) (fun r:az =>.clean (.agg [.int .i64 r.aj,.sl false false r.aa.length (ab (eI .i64) r.aa)]))
theorem xb (p0_0:Int) (p0_1:(List Int)) (p1_0:Int) (p1_1:(List Int)):pV none [.agg [.int .i64 p0_0,.sl false false p0_1.length (ab (eI .i64) p0_1)],.agg [.int .i64 p1_0,.sl false false p1_1.length (ab (eI .i64) p1_1)]]=(fX (az.mk p0_0 p0_1) (az.mk p1_0 p1_1)).map fun r:az=>(.clean (.agg [.int .i64 r.aj,.sl false false r.aa.length (ab (eI .i64) r.aa)]),none):=aJ _ _ _ ((az.mk p0_0 p0_1),(az.mk p1_0 p1_1))
noncomputable def mR:Env:=(Am.ext aU 130 false xD)
theorem Du:bT Tryz.prog mR:=(bT.none.add MJ false)
theorem HX:type_of% (ai @w<|ai @FL<|@mR.eq_1):=⟨@w,@FL,@mR.eq_1⟩
theorem G8 (p0:az) (p1:az) (r:az) (hh:fX p0 p1=some r):aS .clean tab mR FU Tryz.f101 none [.agg [.int .i64 p0.aj,.sl false false p0.aa.length (ab (eI .i64) p0.aa)],.agg [.int .i64 p1.aj,.sl false false p1.aa.length (ab (eI .i64) p1.aa)]]=some (.clean (.agg [.int .i64 r.aj,.sl false false r.aa.length (ab (eI .i64) r.aa)]),none):=by
 refine aw rfl Tryz.ntmps101 Tryz.results101 ?_
 unfold fX at hh
 obtain⟨r1,hr1,hh⟩:=ae hh
 cases hh
 try simp only[HX,seval,-Int.reduceToNat,hr1]
theorem DT:bN Tryz.prog 101 pV:=bN.of (mode := .clean) tok Du mixed Tryz.func101 (by kernel_rfl) ⟨by kernel_rfl,by kernel_rfl⟩ (fun _=>Nat.le_of_ble_eq_true (by kernel_rfl)) (fun x r h=>G8 x.1 x.2 r h)
noncomputable def pg:=eB (dR (cR iB) (dK (cR iB))) (fun x:az×az=>iO x.1 x.2) (fun r:Int =>.clean (.int .i64 r))
theorem vf (p0_0:Int) (p0_1:(List Int)) (p1_0:Int) (p1_1:(List Int)):pg none [.agg [.int .i64 p0_0,.sl false false p0_1.length (ab (eI .i64) p0_1)],.agg [.int .i64 p1_0,.sl false false p1_1.length (ab (eI .i64) p1_1)]]=(iO (az.mk p0_0 p0_1) (az.mk p1_0 p1_1)).map fun r:Int=>(.clean (.int .i64 r),none):=aJ _ _ _ ((az.mk p0_0 p0_1),(az.mk p1_0 p1_1))
noncomputable def lQ:Env:=(Am.ext (Am.ext (Am.ext aU 97 false iL) 128 false lJ) 129 false lI)
theorem BU:bT Tryz.prog lQ:=(((bT.none.add kE false).add tx false).add tv false)
theorem du:type_of% (ai @w<|ai @fh<|ai @lY<|ai @lX<|@lQ.eq_1):=⟨@w,@fh,@lY,@lX,@lQ.eq_1⟩
theorem DJ (p0:az) (p1:az) (r:Int) (hh:iO p0 p1=some r):aS .clean tab lQ FU Tryz.f100 none [.agg [.int .i64 p0.aj,.sl false false p0.aa.length (ab (eI .i64) p0.aa)],.agg [.int .i64 p1.aj,.sl false false p1.aa.length (ab (eI .i64) p1.aa)]]=some (.clean (.int .i64 r),none):=by
 refine aw rfl Tryz.ntmps100 Tryz.results100 ?_
 unfold iO at hh
 obtain⟨r1,hr1,hh⟩:=ae hh
 try simp only[du,seval,-Int.reduceToNat,hr1]
 obtain⟨o2,ho2,hh⟩:=ae hh
 refine bH 0 (fun s t H e=>match s with|s12j1=>∃v2j1:Nat,∃v3j1:Nat,t 2=.ptr 2 v2j1 0∧t 3=.ptr 3 v3j1 0∧t 12=.bool s12j1∧H 2=some ⟨v2j1,49,[.int .i64 p0.aj,.sl false false p0.aa.length (ab (eI .i64) p0.aa)],false,false,false⟩∧H 3=some ⟨v3j1,49,[.int .i64 p1.aj,.sl false false p1.aa.length (ab (eI .i64) p1.aa)],false,false,false⟩) (fun s=>s=o2) ?_ ?_
 ·rintro s12j1 t H e ⟨v2j1,v3j1,Zj1⟩ rfl
  try dsimp only at hh
  try simp only[du,seval,-Int.reduceToNat,hr1,Zj1]
  refine sp an hh (fun _ hh =>?_) (fun _ hh =>?_)
  ·cases hh
   try simp only[du,seval,-Int.reduceToNat,hr1,Zj1]
  ·try simp only[du,seval,-Int.reduceToNat,hr1,Zj1]
   refine sp an hh (fun _ hh =>?_) (fun _ hh =>?_)
   ·obtain⟨r5,hr5,hh⟩:=ae hh
    cases hh
    try simp only[du,seval,-Int.reduceToNat,hr1,Zj1,hr5]
   ·obtain⟨r6,hr6,hh⟩:=ae hh
    try simp only[du,seval,-Int.reduceToNat,hr1,Zj1,hr6]
    refine bX (by kernel_rfl) ?_
    cases hh
    try simp only[du,seval,-Int.reduceToNat,hr1,Zj1,hr6]
 ·clear hh
  have hh:=ho2
  try simp only[du,seval,-Int.reduceToNat,hr1]
  refine sp aR hh (fun _ hh =>?_) (fun _ hh =>?_)
  ·cases hh
   try simp only[du,seval,-Int.reduceToNat,hr1]
   rw[al]
   refine⟨_,rfl,?_⟩
   refine⟨0,0,?_,?_,?_,?_,?_⟩
   all_goals first|rfl|(simp only[du,seval,-Int.reduceToNat,hr1]<;>rfl)
  ·obtain⟨r8,hr8,hh⟩:=ae hh
   cases hh
   try simp only[du,seval,-Int.reduceToNat,hr1,hr8]
   rw[al]
   refine⟨_,rfl,?_⟩
   refine⟨0,0,?_,?_,?_,?_,?_⟩
   all_goals first|rfl|(simp only[du,seval,-Int.reduceToNat,hr1,hr8]<;>rfl)
theorem Cq:bN Tryz.prog 100 pg:=bN.of (mode := .clean) tok BU mixed Tryz.func100 (by kernel_rfl) ⟨by kernel_rfl,by kernel_rfl⟩ (fun _=>Nat.le_of_ble_eq_true (by kernel_rfl)) (fun x r h=>DJ x.1 x.2 r h)
noncomputable def km:=eB (dR (cR mz) (dK (cR mz))) (fun x:ba×ba=>eZ x.1 x.2) (fun r:Int =>.clean (.int .i64 r))
theorem kK (p0_0:Int) (p0_1:(List Int)) (p0_2:Int) (p0_3:(List Int)) (p1_0:Int) (p1_1:(List Int)) (p1_2:Int) (p1_3:(List Int)):km none [.agg [.int .i64 p0_0,.sl false false p0_1.length (ab (eI .i64) p0_1),.int .i64 p0_2,.sl false false p0_3.length (ab (eI .i64) p0_3)],.agg [.int .i64 p1_0,.sl false false p1_1.length (ab (eI .i64) p1_1),.int .i64 p1_2,.sl false false p1_3.length (ab (eI .i64) p1_3)]]=(eZ (ba.mk (az.mk p0_0 p0_1) (az.mk p0_2 p0_3)) (ba.mk (az.mk p1_0 p1_1) (az.mk p1_2 p1_3))).map fun r:Int=>(.clean (.int .i64 r),none):=aJ _ _ _ ((ba.mk (az.mk p0_0 p0_1) (az.mk p0_2 p0_3)),(ba.mk (az.mk p1_0 p1_1) (az.mk p1_2 p1_3)))
noncomputable def kA:Env:=(Am.ext (Am.ext (Am.ext aU 57 false kn) 100 false pg) 101 false pV)
theorem z6:bT Tryz.prog kA:=(((bT.none.add py false).add Cq false).add DT false)
theorem dJ:type_of% (ai @w<|ai @jf<|ai @vf<|ai @xb<|@kA.eq_1):=⟨@w,@jf,@vf,@xb,@kA.eq_1⟩
theorem Cg (p0:ba) (p1:ba) (r:Int) (hh:eZ p0 p1=some r):aS .clean tab kA FU Tryz.f58 none [.agg [.int .i64 p0.cz.aj,.sl false false p0.cz.aa.length (ab (eI .i64) p0.cz.aa),.int .i64 p0.cw.aj,.sl false false p0.cw.aa.length (ab (eI .i64) p0.cw.aa)],.agg [.int .i64 p1.cz.aj,.sl false false p1.cz.aa.length (ab (eI .i64) p1.cz.aa),.int .i64 p1.cw.aj,.sl false false p1.cw.aa.length (ab (eI .i64) p1.cw.aa)]]=some (.clean (.int .i64 r),none):=by
 refine aw rfl Tryz.ntmps58 Tryz.results58 ?_
 unfold eZ at hh
 obtain⟨r1,hr1,hh⟩:=ae hh
 try simp only[dJ,seval,-Int.reduceToNat,hr1]
 obtain⟨o2,ho2,hh⟩:=ae hh
 refine bH 0 (fun s t H e=>match s with|s12j1=>∃v2j1:Nat,∃v3j1:Nat,t 2=.ptr 2 v2j1 0∧t 3=.ptr 3 v3j1 0∧t 12=.bool s12j1∧H 2=some ⟨v2j1,51,[.int .i64 p0.cz.aj,.sl false false p0.cz.aa.length (ab (eI .i64) p0.cz.aa),.int .i64 p0.cw.aj,.sl false false p0.cw.aa.length (ab (eI .i64) p0.cw.aa)],false,false,false⟩∧H 3=some ⟨v3j1,51,[.int .i64 p1.cz.aj,.sl false false p1.cz.aa.length (ab (eI .i64) p1.cz.aa),.int .i64 p1.cw.aj,.sl false false p1.cw.aa.length (ab (eI .i64) p1.cw.aa)],false,false,false⟩) (fun s=>s=o2) ?_ ?_
 ·rintro s12j1 t H e ⟨v2j1,v3j1,Zj1⟩ rfl
  try dsimp only at hh
  try simp only[dJ,seval,-Int.reduceToNat,hr1,Zj1]
  refine sp an hh (fun _ hh =>?_) (fun _ hh =>?_)
  ·cases hh
   try simp only[dJ,seval,-Int.reduceToNat,hr1,Zj1]
  ·obtain⟨r4,hr4,hh⟩:=ae hh
   obtain⟨r5,hr5,hh⟩:=ae hh
   obtain⟨r6,hr6,hh⟩:=ae hh
   try simp only[dJ,seval,-Int.reduceToNat,hr1,Zj1,hr4,hr5,hr6]
   refine bX (by kernel_rfl) ?_
   cases hh
   try simp only[dJ,seval,-Int.reduceToNat,hr1,Zj1,hr4,hr5,hr6]
 ·clear hh
  have hh:=ho2
  try simp only[dJ,seval,-Int.reduceToNat,hr1]
  refine sp aR hh (fun _ hh =>?_) (fun _ hh =>?_)
  ·cases hh
   try simp only[dJ,seval,-Int.reduceToNat,hr1]
   rw[al]
   refine⟨_,rfl,?_⟩
   refine⟨0,0,?_,?_,?_,?_,?_⟩
   all_goals first|rfl|(simp only[dJ,seval,-Int.reduceToNat,hr1]<;>rfl)
  ·obtain⟨r8,hr8,hh⟩:=ae hh
   cases hh
   try simp only[dJ,seval,-Int.reduceToNat,hr1,hr8]
   rw[al]
   refine⟨_,rfl,?_⟩
   refine⟨0,0,?_,?_,?_,?_,?_⟩
   all_goals first|rfl|(simp only[dJ,seval,-Int.reduceToNat,hr1,hr8]<;>rfl)
theorem rN:bN Tryz.prog 58 km:=bN.of (mode := .clean) tok z6 mixed Tryz.func58 (by kernel_rfl) ⟨by kernel_rfl,by kernel_rfl⟩ (fun _=>Nat.le_of_ble_eq_true (by kernel_rfl)) (fun x r h=>Cg x.1 x.2 r h)
noncomputable def mI:=eB (dK (cR mA)) (fun x:ew=>fY x) (fun r:Bool =>.clean (.bool r))
theorem np (p0_0:Int) (p0_1:(List Int)) (p0_2:Int) (p0_3:(List Int)) (p0_4:Int) (p0_5:(List Int)) (p0_6:Int) (p0_7:(List Int)):mI none [.agg [.int .i64 p0_0,.sl false false p0_1.length (ab (eI .i64) p0_1),.int .i64 p0_2,.sl false false p0_3.length (ab (eI .i64) p0_3),.int .i64 p0_4,.sl false false p0_5.length (ab (eI .i64) p0_5),.int .i64 p0_6,.sl false false p0_7.length (ab (eI .i64) p0_7)]]=(fY (ew.mk (ba.mk (az.mk p0_0 p0_1) (az.mk p0_2 p0_3)) (ba.mk (az.mk p0_4 p0_5) (az.mk p0_6 p0_7)))).map fun r:Bool=>(.clean (.bool r),none):=aJ _ _ _ ((ew.mk (ba.mk (az.mk p0_0 p0_1) (az.mk p0_2 p0_3)) (ba.mk (az.mk p0_4 p0_5) (az.mk p0_6 p0_7))))
noncomputable def mT:Env:=(Am.ext (Am.ext aU 57 false kn) 58 false km)
theorem Dw:bT Tryz.prog mT:=((bT.none.add py false).add rN false)
theorem kZ:type_of% (ai @w<|ai @jf<|ai @kK<|@mT.eq_1):=⟨@w,@jf,@kK,@mT.eq_1⟩
theorem Ha (p0:ew) (r:Bool) (hh:fY p0=some r):aS .clean tab mT FU Tryz.f30 none [.agg [.int .i64 p0.bB.cz.aj,.sl false false p0.bB.cz.aa.length (ab (eI .i64) p0.bB.cz.aa),.int .i64 p0.bB.cw.aj,.sl false false p0.bB.cw.aa.length (ab (eI .i64) p0.bB.cw.aa),.int .i64 p0.aV.cz.aj,.sl false false p0.aV.cz.aa.length (ab (eI .i64) p0.aV.cz.aa),.int .i64 p0.aV.cw.aj,.sl false false p0.aV.cw.aa.length (ab (eI .i64) p0.aV.cw.aa)]]=some (.clean (.bool r),none):=by
 refine aw rfl Tryz.ntmps30 Tryz.results30 ?_
 unfold fY at hh
 obtain⟨r1,hr1,hh⟩:=ae hh
 try simp only[kZ,seval,-Int.reduceToNat,hr1]
 refine sp bk hh (fun _ hh =>?_) (fun _ hh =>?_)
 ·obtain⟨r3,hr3,hh⟩:=ae hh
  try simp only[kZ,seval,-Int.reduceToNat,hr1,hr3]
  refine sp bk hh (fun _ hh =>?_) (fun _ hh =>?_)
  ·obtain⟨r5,hr5,hh⟩:=ae hh
   cases hh
   try simp only[kZ,seval,-Int.reduceToNat,hr1,hr3,hr5]
  ·cases hh
   try simp only[kZ,seval,-Int.reduceToNat,hr1,hr3]
 ·cases hh
  try simp only[kZ,seval,-Int.reduceToNat,hr1]
theorem vb:bN Tryz.prog 30 mI:=bN.of (mode := .clean) tok Dw mixed Tryz.func30 (by kernel_rfl) ⟨by kernel_rfl,by kernel_rfl⟩ (fun _=>Nat.le_of_ble_eq_true (by kernel_rfl)) (fun x r h=>Ha x r h)
noncomputable def mu:=eB (dK (cR aW)) (fun x:aG=>ic x) (fun r:Bool =>.clean (.bool r))
theorem rQ (p0_0:Int) (p0_1:Int) (p0_2:(List Int)) (p0_3:Int) (p0_4:(List Int)) (p0_5:Int) (p0_6:(List Int)) (p0_7:Int) (p0_8:(List Int)):mu none [.agg [.int .i64 p0_0,.int .i64 p0_1,.sl false false p0_2.length (ab (eI .i64) p0_2),.int .i64 p0_3,.sl false false p0_4.length (ab (eI .i64) p0_4),.int .i64 p0_5,.sl false false p0_6.length (ab (eI .i64) p0_6),.int .i64 p0_7,.sl false false p0_8.length (ab (eI .i64) p0_8)]]=(ic (aG.mk p0_0 (ew.mk (ba.mk (az.mk p0_1 p0_2) (az.mk p0_3 p0_4)) (ba.mk (az.mk p0_5 p0_6) (az.mk p0_7 p0_8))))).map fun r:Bool=>(.clean (.bool r),none):=aJ _ _ _ ((aG.mk p0_0 (ew.mk (ba.mk (az.mk p0_1 p0_2) (az.mk p0_3 p0_4)) (ba.mk (az.mk p0_5 p0_6) (az.mk p0_7 p0_8)))))
noncomputable def jC:Env:=(Am.ext aU 30 false mI)
theorem yd:bT Tryz.prog jC:=(bT.none.add vb false)
theorem Ai:type_of% (ai @w<|ai @np<|@jC.eq_1):=⟨@w,@np,@jC.eq_1⟩
theorem z7 (p0:aG) (r:Bool) (hh:ic p0=some r):aS .clean tab jC FU Tryz.f41 none [.agg [.int .i64 p0.cg,.int .i64 p0.bL.bB.cz.aj,.sl false false p0.bL.bB.cz.aa.length (ab (eI .i64) p0.bL.bB.cz.aa),.int .i64 p0.bL.bB.cw.aj,.sl false false p0.bL.bB.cw.aa.length (ab (eI .i64) p0.bL.bB.cw.aa),.int .i64 p0.bL.aV.cz.aj,.sl false false p0.bL.aV.cz.aa.length (ab (eI .i64) p0.bL.aV.cz.aa),.int .i64 p0.bL.aV.cw.aj,.sl false false p0.bL.aV.cw.aa.length (ab (eI .i64) p0.bL.aV.cw.aa)]]=some (.clean (.bool r),none):=by
 refine aw rfl Tryz.ntmps41 Tryz.results41 ?_
 unfold ic at hh
 obtain⟨r1,hr1,hh⟩:=ae hh
 cases hh
 try simp only[Ai,seval,-Int.reduceToNat,hr1]
theorem yq:bN Tryz.prog 41 mu:=bN.of (mode := .clean) tok yd mixed Tryz.func41 (by kernel_rfl) ⟨by kernel_rfl,by kernel_rfl⟩ (fun _=>Nat.le_of_ble_eq_true (by kernel_rfl)) (fun x r h=>z7 x r h)
noncomputable def ko:=eB (dK (aI .u64)) (fun x:Int=>ia x) (fun r:Int =>.clean (.int .i64 r))
theorem oW (p0:Int):ko none [.int .u64 p0]=(ia p0).map fun r:Int=>(.clean (.int .i64 r),none):=aJ _ _ _ (p0)
theorem wZ (p0:Int) (r:Int) (hh:ia p0=some r):aS .clean tab aU FU Tryz.f149 none [.int .u64 p0]=some (.clean (.int .i64 r),none):=by
 refine aw rfl Tryz.ntmps149 Tryz.results149 ?_
 unfold ia at hh
 try simp only[w,seval,-Int.reduceToNat]
 obtain⟨o1,ho1,hh⟩:=ae hh
 refine kX 0 (fun s t H e=>match s with|(s0j1,s2j1)=>t 0=.int .u64 s0j1∧t 2=.int .i64 s2j1) (fun s=>s=o1) ?_ ?_
 ·rintro⟨s0j1,s2j1⟩ t H e Zj1 rfl
  try dsimp only at hh
  try simp only[w,seval,-Int.reduceToNat,Zj1]
  obtain⟨o2,ho2,hh⟩:=ae hh
  refine kX 0 (fun s t H e=>match s with|(s0j2,s2j2)=>t 0=.int .u64 s0j2∧t 2=.int .i64 s2j2) (fun s=>s=o2) ?_ ?_
  ·rintro⟨s0j2,s2j2⟩ t H e Zj2 rfl
   try dsimp only at hh
   try simp only[w,seval,-Int.reduceToNat,Zj2]
   refine sp an hh (fun _ hh =>?_) (fun _ hh =>?_)
   ·obtain⟨x4,hx4,hh⟩:=ae hh
    have q5:=rp hx4
    try simp only[w,seval,-Int.reduceToNat,Zj2,q5]
    obtain⟨x6,hx6,hh⟩:=ae hh
    obtain⟨q7a,q7b,q7c,q7d⟩:=OW hx6
    try simp only[w,seval,-Int.reduceToNat,Zj2,q5,q7a,q7d]
    erw [q7c]
    cases hh
    try simp only[w,seval,-Int.reduceToNat,Zj2,q5,q7a,q7d]
   ·try simp only[w,seval,-Int.reduceToNat,Zj2]
    obtain⟨x8,hx8,hh⟩:=ae hh
    obtain⟨q9a,q9b,q9c,q9d⟩:=OW hx8
    try simp only[w,seval,-Int.reduceToNat,Zj2,q9a,q9d]
    erw [q9c]
    cases hh
    try simp only[w,seval,-Int.reduceToNat,Zj2,q9a,q9d]
  ·clear hh
   have hh:=ho2
   try simp only[w,seval,-Int.reduceToNat,Zj1]
   refine sp an hh (fun _ hh =>?_) (fun _ hh =>?_)
   ·obtain⟨x11,hx11,hh⟩:=ae hh
    have q12:=rp hx11
    cases hh
    try simp only[w,seval,-Int.reduceToNat,Zj1,q12]
    rw[al]
    refine⟨_,rfl,?_⟩
    refine⟨?_,?_⟩
    all_goals first|rfl|(simp only[w,seval,-Int.reduceToNat,Zj1,q12]<;>rfl)
   ·cases hh
    try simp only[w,seval,-Int.reduceToNat,Zj1]
    rw[al]
    refine⟨_,rfl,?_⟩
    refine⟨?_,?_⟩
    all_goals first|rfl|(simp only[w,seval,-Int.reduceToNat,Zj1]<;>rfl)
 ·clear hh
  have hh:=ho1
  try simp only[w,seval,-Int.reduceToNat]
  refine sp an hh (fun _ hh =>?_) (fun _ hh =>?_)
  ·obtain⟨x14,hx14,hh⟩:=ae hh
   have q15:=rp hx14
   cases hh
   try simp only[w,seval,-Int.reduceToNat,q15]
   rw[al]
   refine⟨_,rfl,?_⟩
   refine⟨?_,?_⟩
   all_goals first|rfl|(simp only[w,seval,-Int.reduceToNat,q15]<;>rfl)
  ·cases hh
   try simp only[w,seval,-Int.reduceToNat]
   rw[al]
   refine⟨_,rfl,?_⟩
   refine⟨?_,?_⟩
   all_goals first|rfl|(simp only[w,seval,-Int.reduceToNat]<;>rfl)
theorem vP:bN Tryz.prog 149 ko:=bN.of (mode := .clean) tok bT.none mixed Tryz.func149 (by kernel_rfl) ⟨by kernel_rfl,by kernel_rfl⟩ (fun _=>Nat.le_of_ble_eq_true (by kernel_rfl)) (fun x r h=>wZ x r h)
noncomputable def mv:=eB (dK (aI .u64)) (fun x:Int=>jt x) (fun r:Int =>.clean (.int .i64 r))
theorem rR (p0:Int):mv none [.int .u64 p0]=(jt p0).map fun r:Int=>(.clean (.int .i64 r),none):=aJ _ _ _ (p0)
noncomputable def jE:Env:=(Am.ext aU 149 false ko)
theorem yf:bT Tryz.prog jE:=(bT.none.add vP false)
theorem Aj:type_of% (ai @w<|ai @oW<|@jE.eq_1):=⟨@w,@oW,@jE.eq_1⟩
theorem Aa (p0:Int) (r:Int) (hh:jt p0=some r):aS .clean tab jE FU Tryz.f107 none [.int .u64 p0]=some (.clean (.int .i64 r),none):=by
 refine aw rfl Tryz.ntmps107 Tryz.results107 ?_
 unfold jt at hh
 obtain⟨r1,hr1,hh⟩:=ae hh
 cases hh
 try simp only[Aj,seval,-Int.reduceToNat,hr1]
theorem yt:bN Tryz.prog 107 mv:=bN.of (mode := .clean) tok yf mixed Tryz.func107 (by kernel_rfl) ⟨by kernel_rfl,by kernel_rfl⟩ (fun _=>Nat.le_of_ble_eq_true (by kernel_rfl)) (fun x r h=>Aa x r h)
noncomputable def vx:=eB (dR (aI .i64) (dK (aI .i64))) (fun x:Int×Int=>sI x.1 x.2) (fun r:Bool =>.clean (.bool r))
theorem Cz (p0:Int) (p1:Int):vx none [.int .i64 p0,.int .i64 p1]=(sI p0 p1).map fun r:Bool=>(.clean (.bool r),none):=aJ _ _ _ (p0,p1)
noncomputable def qB:Env:=(Am.ext aU 166 false ow)
theorem Jm:bT Tryz.prog qB:=(bT.none.add w7 false)
theorem oq:type_of% (ai @w<|ai @oV<|@qB.eq_1):=⟨@w,@oV,@qB.eq_1⟩
theorem Mt (p0:Int) (p1:Int) (r:Bool) (hh:sI p0 p1=some r):aS .clean tab qB FU Tryz.f145 none [.int .i64 p0,.int .i64 p1]=some (.clean (.bool r),none):=by
 refine aw rfl Tryz.ntmps145 Tryz.results145 ?_
 unfold sI at hh
 obtain⟨r1,hr1,hh⟩:=ae hh
 try simp only[oq,seval,-Int.reduceToNat,hr1]
 refine sp bk hh (fun _ hh =>?_) (fun _ hh =>?_)
 ·obtain⟨r3,hr3,hh⟩:=ae hh
  try simp only[oq,seval,-Int.reduceToNat,hr1,hr3]
  refine sp aR hh (fun _ hh =>?_) (fun _ hh =>?_)
  ·cases hh
   try simp only[oq,seval,-Int.reduceToNat,hr1,hr3]
  ·cases hh
   try simp only[oq,seval,-Int.reduceToNat,hr1,hr3]
 ·cases hh
  try simp only[oq,seval,-Int.reduceToNat,hr1]
theorem KD:bN Tryz.prog 145 vx:=bN.of (mode := .clean) tok Jm mixed Tryz.func145 (by kernel_rfl) ⟨by kernel_rfl,by kernel_rfl⟩ (fun _=>Nat.le_of_ble_eq_true (by kernel_rfl)) (fun x r h=>Mt x.1 x.2 r h)
noncomputable def ez:=QQ 3 (eI .i64) (dR (aI .i64) (dK (aI .i64))) (fun (l:(List Int)) (x:Int×Int)=>bY l x.1 x.2) (fun r:Unit =>.clean (.tup []))
theorem lh (pre post:List D) (p0:(List Int)) (p1:Int) (p2:Int):ez (some (.buf 0 0 1 pre.length p0.length,⟨0,3,pre++(ab (eI .i64) p0++post),false,true,false⟩)) [.int .i64 p1,.int .i64 p2]=(bY p0 p1 p2).map fun r=>(.clean (.tup []),some ⟨0,3,pre++(ab (eI .i64) r.1++post),false,true,false⟩):=Cm _ _ _ _ _ pre post p0 (p1,p2)
noncomputable def dp:Env:=(Am.ext aU 145 false vx)
theorem kB:bT Tryz.prog dp:=(bT.none.add KD false)
theorem au:type_of% (ai @w<|ai @Cz<|@dp.eq_1):=⟨@w,@Cz,@dp.eq_1⟩
theorem lf (pre post:List D) (p0:(List Int)) (p1:Int) (p2:Int) (r:(List Int)×(Unit)) (hh:bY p0 p1 p2=some r):aS .clean tab dp FU Tryz.f139 (some (.buf 0 0 1 pre.length p0.length,⟨0,3,pre++(ab (eI .i64) p0++post),false,true,false⟩)) [.int .i64 p1,.int .i64 p2]=some (.clean (.tup []),some ⟨0,3,pre++(ab (eI .i64) r.1++post),false,true,false⟩):=by
 refine oo rfl Tryz.ntmps139 Tryz.results139 ?_
 unfold bY at hh
 obtain⟨rw,hrw,hh⟩:=ae hh
 split at hh
 rotate_left
 ·cases hh
 cases hh
 rename_i hlen
 replace hh:=hrw
 unfold gi at hh
 try simp only[au,seval,-Int.reduceToNat]
 obtain⟨o25,ho25,hh⟩:=ae hh
 refine aB (fun s t H e=>match s with|(s6a,l0a)=>t 0=.buf 0 0 1 pre.length (l0a).length∧t 1=.int .i64 p1∧t 2=.int .i64 p2∧t 6=.int .i64 s6a∧H 0=some ⟨0,3,pre++(ab (eI .i64) l0a++post),false,true,false⟩) (fun o x t H e=>match o with|l0ax=>x=.exit 0∧t 0=.buf 0 0 1 pre.length (l0ax).length∧H 0=some ⟨0,3,pre++(ab (eI .i64) l0ax++post),false,true,false⟩) ho25 ?_ ?_ ?_
 ·refine⟨?_,?_,?_,?_,?_⟩
  all_goals first|rfl|(simp only[au,seval,-Int.reduceToNat]<;>rfl)
 ·rintro⟨s6a,l0a⟩ t H e Za c hh
  simp only[fS]at hh
  try simp only[au,seval,-Int.reduceToNat,Za]
  refine sp an hh (fun _ hh =>?_) (fun _ hh =>?_)
  ·try simp only[au,seval,-Int.reduceToNat,Za]
   obtain⟨o38,ho38,hh⟩:=ae hh
   refine aB (fun s t H e=>match s with|(s7e,l0e)=>t 0=.buf 0 0 1 pre.length (l0e).length∧t 1=.int .i64 p1∧t 2=.int .i64 p2∧t 6=.int .i64 s6a∧t 7=.int .i64 s7e∧H 0=some ⟨0,3,pre++(ab (eI .i64) l0e++post),false,true,false⟩) (fun o x t H e=>match o with|l0ex=>x=.exit 2∧t 0=.buf 0 0 1 pre.length (l0ex).length∧t 1=.int .i64 p1∧t 2=.int .i64 p2∧t 6=.int .i64 s6a∧H 0=some ⟨0,3,pre++(ab (eI .i64) l0ex++post),false,true,false⟩) ho38 ?_ ?_ ?_
   ·refine⟨?_,?_,?_,?_,?_,?_⟩
    all_goals first|rfl|(simp only[au,seval,-Int.reduceToNat,Za]<;>rfl)
   ·rintro⟨s7e,l0e⟩ t H e Ze c hh
    simp only[fT]at hh
    try simp only[au,seval,-Int.reduceToNat,Ze]
    obtain⟨o39,ho39,hh⟩:=ae hh
    refine C8 0 (fun s t H e=>match s with|s30j7=>t 0=.buf 0 0 1 pre.length (l0e).length∧t 1=.int .i64 p1∧t 2=.int .i64 p2∧t 6=.int .i64 s6a∧t 7=.int .i64 s7e∧t 30=.bool s30j7∧H 0=some ⟨0,3,pre++(ab (eI .i64) l0e++post),false,true,false⟩) (fun s=>s=o39) ?_ ?_
    ·rintro s30j7 t H e Zj7 rfl
     try dsimp only at hh
     try simp only[au,seval,-Int.reduceToNat,Zj7]
     refine sp an hh (fun _ hh =>?_) (fun _ hh =>?_)
     ·obtain⟨x41,hx41,hh⟩:=ae hh
      have ax41:=s7 (pre:=pre) (post:=post) (eI .i64) hx41
      simp only[bU]at ax41
      obtain⟨x42,hx42,hh⟩:=ae hh
      have ax42:=s7 (pre:=pre) (post:=post) (eI .i64) hx42
      simp only[bU]at ax42
      have ax42:=s7 (pre:=pre) (post:=post) (eI .i64) hx42
      simp only[bU]at ax42
      have p43:=xa (pre:=pre) (post:=post) (eI .i64) (y':=x41) hx42
      simp only[bU]at p43
      have up43:=p43
      simp only[putCells,List.length_cons,List.length_nil,Nat.zero_add,Nat.reduceAdd]at up43
      obtain⟨x44,hx44,hh⟩:=ae hh
      have ax44:=s7 (pre:=pre) (post:=post) (eI .i64) hx44
      simp only[bU,List.length_set]at ax44
      have p45:=xa (pre:=pre) (post:=post) (eI .i64) (y':=x42) hx44
      simp only[bU]at p45
      have up45:=p45
      simp only[putCells,List.length_cons,List.length_nil,Nat.zero_add,Nat.reduceAdd]at up45
      try simp only[au,seval,-Int.reduceToNat,Zj7,ax41,ax42,ax42,p43,up43,ax44,p45,up45]
      refine bX (by kernel_rfl) ?_
      cases hh
      try simp only[au,seval,-Int.reduceToNat,Zj7,ax41,ax42,ax42,p43,up43,ax44,p45,up45]
      refine iS ?_
      refine⟨?_,?_,?_,?_,?_,?_⟩
      all_goals first|rfl|(simp only[au,seval,-Int.reduceToNat,Zj7,ax41,ax42,ax42,p43,up43,ax44,p45,up45]<;>rfl)
     ·cases hh
      try simp only[au,seval,-Int.reduceToNat,Zj7]
      refine ki ?_
      refine⟨rfl,⟨?_,?_,?_,?_,?_⟩⟩
      all_goals first|rfl|(simp only[au,seval,-Int.reduceToNat,Zj7]<;>rfl)
    ·clear hh
     have hh:=ho39
     try simp only[au,seval,-Int.reduceToNat,Ze]
     refine sp ji hh (fun _ hh =>?_) (fun _ hh =>?_)
     ·obtain⟨x47,hx47,hh⟩:=ae hh
      have ax47:=s7 (pre:=pre) (post:=post) (eI .i64) hx47
      simp only[bU]at ax47
      obtain⟨x48,hx48,hh⟩:=ae hh
      have ax48:=s7 (pre:=pre) (post:=post) (eI .i64) hx48
      simp only[bU]at ax48
      obtain⟨r49,hr49,hh⟩:=ae hh
      try simp only[au,seval,-Int.reduceToNat,Ze,ax47,ax48,hr49]
      refine bX (by kernel_rfl) ?_
      cases hh
      try simp only[au,seval,-Int.reduceToNat,Ze,ax47,ax48,hr49]
      rw[al]
      refine⟨_,rfl,?_⟩
      refine⟨?_,?_,?_,?_,?_,?_,?_⟩
      all_goals first|rfl|(simp only[au,seval,-Int.reduceToNat,Ze,ax47,ax48,hr49]<;>rfl)
     ·try simp only[au,seval,-Int.reduceToNat,Ze]
      refine bX (by kernel_rfl) ?_
      cases hh
      try simp only[au,seval,-Int.reduceToNat,Ze]
      rw[al]
      refine⟨_,rfl,?_⟩
      refine⟨?_,?_,?_,?_,?_,?_,?_⟩
      all_goals first|rfl|(simp only[au,seval,-Int.reduceToNat,Ze]<;>rfl)
   ·rintro x t H e hx
    obtain⟨l0ex,rfl⟩:∃z,z=o38:=⟨_,rfl⟩
    dsimp only at hx hh
    obtain⟨rfl,Zex⟩:=hx
    cases hh
    try simp only[au,seval,-Int.reduceToNat,Zex]
    refine iS ?_
    refine⟨?_,?_,?_,?_,?_⟩
    all_goals first|rfl|(simp only[au,seval,-Int.reduceToNat,Zex]<;>rfl)
  ·cases hh
   try simp only[au,seval,-Int.reduceToNat,Za]
   refine ki ?_
   refine⟨rfl,⟨?_,?_⟩⟩
   all_goals first|rfl|(simp only[au,seval,-Int.reduceToNat,Za]<;>rfl)
 ·rintro x t H e hx
  obtain⟨l0ax,rfl⟩:∃z,z=o25:=⟨_,rfl⟩
  dsimp only at hx hh
  obtain⟨rfl,Zax⟩:=hx
  cases hh
  try simp only[au,seval,-Int.reduceToNat,Zax]
theorem kF:bN Tryz.prog 139 ez:=bN.OA (mode := .clean) tok kB mixed Tryz.func139 (by kernel_rfl) ⟨by kernel_rfl,by kernel_rfl⟩ (fun _=>Nat.le_of_ble_eq_true (by kernel_rfl)) (fun pre post l x l' r h=>lf pre post l x.1 x.2 (l',r) h)
noncomputable def fF:=QQ 3 (eI .i64) (dR (aI .i64) (dR (aI .i64) (dK (aI .i64)))) (fun (l:(List Int)) (x:Int×Int×Int)=>cA l x.1 x.2.1 x.2.2) (fun r:Unit =>.clean (.tup []))
theorem ov (pre post:List D) (p0:(List Int)) (p1:Int) (p2:Int) (p3:Int):fF (some (.buf 0 0 1 pre.length p0.length,⟨0,3,pre++(ab (eI .i64) p0++post),false,true,false⟩)) [.int .i64 p1,.int .i64 p2,.int .i64 p3]=(cA p0 p1 p2 p3).map fun r=>(.clean (.tup []),some ⟨0,3,pre++(ab (eI .i64) r.1++post),false,true,false⟩):=Cm _ _ _ _ _ pre post p0 (p1,p2,p3)
noncomputable def eA:Env:=(Am.ext aU 139 true ez)
theorem n0:bT Tryz.prog eA:=(bT.none.add kF true)
theorem cI:type_of% (ai @w<|@eA.eq_1):=⟨@w,@eA.eq_1⟩
theorem ou (pre post:List D) (p0:(List Int)) (p1:Int) (p2:Int) (p3:Int) (r:(List Int)×(Unit)) (hh:cA p0 p1 p2 p3=some r):aS .clean tab eA FU Tryz.f106 (some (.buf 0 0 1 pre.length p0.length,⟨0,3,pre++(ab (eI .i64) p0++post),false,true,false⟩)) [.int .i64 p1,.int .i64 p2,.int .i64 p3]=some (.clean (.tup []),some ⟨0,3,pre++(ab (eI .i64) r.1++post),false,true,false⟩):=by
 refine oo rfl Tryz.ntmps106 Tryz.results106 ?_
 unfold cA at hh
 obtain⟨rw,hrw,hh⟩:=ae hh
 split at hh
 rotate_left
 ·cases hh
 cases hh
 rename_i hlen
 replace hh:=hrw
 unfold jj at hh
 try simp only[cI,seval,-Int.reduceToNat]
 obtain⟨o6,ho6,hh⟩:=ae hh
 refine aB (fun s t H e=>match s with|_=>t 0=.buf 0 0 1 pre.length (p0).length∧t 1=.int .i64 p1∧t 2=.int .i64 p2∧t 3=.int .i64 p3∧t 8=.bool true∧t 9=.bool true∧H 0=some ⟨0,3,pre++(ab (eI .i64) p0++post),false,true,false⟩) (fun o x t H e=>match o with|r=>x=.ret∧gj .clean tab (some (.buf 0 0 1 pre.length p0.length,⟨0,3,pre++(ab (eI .i64) p0++post),false,true,false⟩)) [] ⟨t,H,e⟩=some (.clean (.tup []),some ⟨0,3,pre++(ab (eI .i64) r.1++post),false,true,false⟩)) ho6 ?_ ?_ ?_
 ·refine⟨?_,?_,?_,?_,?_,?_,?_⟩
  all_goals first|rfl|(simp only[cI,seval,-Int.reduceToNat]<;>rfl)
 ·rintro _ t H e Za c hh
  simp only[iV]at hh
  try simp only[cI,seval,-Int.reduceToNat,Za]
  refine sp an hh (fun _ hh =>?_) (fun _ hh =>?_)
  ·have i8:=lh pre post p0 p1 p2
   try simp only[List.nil_append,List.append_nil,List.length_nil,aM,List.length_set,bU]at i8
   obtain⟨r9,hr9,hh⟩:=ae hh
   have q10l:=kg hr9
   cases hh
   try simp only[cI,seval,-Int.reduceToNat,Za,i8,hr9,q10l]
   refine ti ⟨rfl,?_⟩
   try simp only[cI,seval,-Int.reduceToNat,Za,i8,hr9,q10l]
  ·try simp only[cI,seval,-Int.reduceToNat,Za]
   refine sp an hh (fun _ hh =>?_) (fun _ hh =>?_)
   ·cases hh
   ·cases hh
 ·rintro x t H e hx
  rcases o6 with ra
  dsimp only at hx hh
  obtain⟨rfl,hE⟩:=hx
  cases hh
  try simp only[bq,bc,bC,cP,cO]
  exact hE
theorem n9:bN Tryz.prog 106 fF:=bN.OA (mode := .clean) tok n0 mixed Tryz.func106 (by kernel_rfl) ⟨by kernel_rfl,by kernel_rfl⟩ (fun _=>Nat.le_of_ble_eq_true (by kernel_rfl)) (fun pre post l x l' r h=>ou pre post l x.1 x.2.1 x.2.2 (l',r) h)
noncomputable def zU:=QQ 3 (eI .i64) (Ua) (fun (l:(List Int)) (x:Unit)=>pB l) (fun r:Unit =>.clean (.tup []))
noncomputable def jF:Env:=(Am.ext (Am.ext aU 106 true fF) 107 false mv)
theorem yg:bT Tryz.prog jF:=((bT.none.add n9 true).add yt false)
theorem Ak:type_of% (ai @w<|ai @rR<|@jF.eq_1):=⟨@w,@rR,@jF.eq_1⟩
theorem Ab (pre post:List D) (p0:(List Int)) (r:(List Int)×(Unit)) (hh:pB p0=some r):aS .clean tab jF FU Tryz.f69 (some (.buf 0 0 1 pre.length p0.length,⟨0,3,pre++(ab (eI .i64) p0++post),false,true,false⟩)) []=some (.clean (.tup []),some ⟨0,3,pre++(ab (eI .i64) r.1++post),false,true,false⟩):=by
 refine oo rfl Tryz.ntmps69 Tryz.results69 ?_
 unfold pB at hh
 obtain⟨rw,hrw,hh⟩:=ae hh
 split at hh
 rotate_left
 ·cases hh
 cases hh
 rename_i hlen
 replace hh:=hrw
 unfold rW at hh
 obtain⟨r1,hr1,hh⟩:=ae hh
 have i2:=ov pre post p0 0 ((p0).length:Int) r1
 try simp only[List.nil_append,List.append_nil,List.length_nil,aM,List.length_set,bU]at i2
 obtain⟨r3,hr3,hh⟩:=ae hh
 have q4l:=nf hr3
 cases hh
 try simp only[Ak,seval,-Int.reduceToNat,hr1,i2,hr3,q4l]
theorem yu:bN Tryz.prog 69 zU:=bN.OA (mode := .clean) tok yg mixed Tryz.func69 (by kernel_rfl) ⟨by kernel_rfl,by kernel_rfl⟩ (fun _=>Nat.le_of_ble_eq_true (by kernel_rfl)) (fun pre post l x l' r h=>Ab pre post l (l',r) h)
noncomputable def pZ:=QQ 3 (eI .i64) Ua (fun (l:(List Int)) (_:Unit)=>jQ l) (fun _:Unit =>.clean (.tup []))
theorem HG (pre post:List D) (p0:(List Int)):pZ (some (.buf 0 0 1 pre.length p0.length,⟨0,3,pre++(ab (eI .i64) p0++post),false,true,false⟩)) []=(jQ p0).map fun r=>(.clean (.tup []),some ⟨0,3,pre++(ab (eI .i64) r.1++post),false,true,false⟩):=Cm _ _ _ _ _ pre post p0 ()
theorem XE:Q0 Tryz.prog 69:=fun blk off cap zs w hH hb hl=>Any.slices_Sort_int Tryz.G3 blk off cap zs w hH hb hl
theorem DV:bN Tryz.prog 69 pZ:=UZ Tryz.func69 ⟨by kernel_rfl,by kernel_rfl⟩ (fun l=>by simp only[jQ]) yu (by kernel_rfl) XE
noncomputable def gR:=VK 3 (eI .i64) Ua (fun (l:(List Int)) (_:Unit)=>iU l)
theorem oa (pre post:List D) (p0:(List Int)):gR (some (.buf 0 0 1 pre.length p0.length,⟨0,3,pre++(ab (eI .i64) p0++post),false,true,false⟩)) []=(iU p0).map fun r=>(.fresh 3 1 r.length (ab (eI .i64) r),none):=Sv _ _ _ _ pre post p0 ()
theorem mG:bN Tryz.prog 70 gR:=LX Tryz.func70 ⟨by kernel_rfl,by kernel_rfl⟩ ⟨fun blk off cap zs w h1 h2 h3=>Any.slices_Compact_int Tryz.Si blk off cap zs w h1 h2 h3,fun a cap w=>Any.slices_Compact_int_empty Tryz.Si a cap w⟩
noncomputable def lG:=eB (dK (iG (eI .i64))) (fun x:(List Int)=>fI x) (fun r:Bool =>.clean (.bool r))
theorem lW (p0:(List Int)):lG none [.sl false false p0.length (ab (eI .i64) p0)]=(fI p0).map fun r:Bool=>(.clean (.bool r),none):=aJ _ _ _ (p0)
noncomputable def lP:Env:=(Am.ext (Am.ext (Am.ext aU 65 false eP) 69 true pZ) 70 true gR)
theorem BT:bT Tryz.prog lP:=(((bT.none.add gU false).add DV true).add mG true)
theorem D9:type_of% (ai @w<|ai @dD<|@lP.eq_1):=⟨@w,@dD,@lP.eq_1⟩
theorem DI (p0:(List Int)) (r:Bool) (hh:fI p0=some r):aS .clean tab lP FU Tryz.f42 none [.sl false false p0.length (ab (eI .i64) p0)]=some (.clean (.bool r),none):=by
 refine aw rfl Tryz.ntmps42 Tryz.results42 ?_
 unfold fI at hh
 obtain⟨r1,hr1,hh⟩:=ae hh
 have i2:=HG [] [] r1
 try simp only[List.nil_append,List.append_nil,List.length_nil,aM,List.length_set,bU]at i2
 obtain⟨r3,hr3,hh⟩:=ae hh
 have q4l:=Cc hr3
 replace q4l:=q4l.symm
 try simp only[q4l]at i2
 have i5:=oa [] [] r3.1
 try simp only[List.nil_append,List.append_nil,List.length_nil,aM,List.length_set,bU]at i5
 obtain⟨r6,hr6,hh⟩:=ae hh
 cases hh
 try simp only[D9,seval,-Int.reduceToNat,hr1,i2,hr3,q4l,i5,hr6]
theorem tr:bN Tryz.prog 42 lG:=bN.of (mode := .clean) tok BT mixed Tryz.func42 (by kernel_rfl) ⟨by kernel_rfl,by kernel_rfl⟩ (fun _=>Nat.le_of_ble_eq_true (by kernel_rfl)) (fun x r h=>DI x r h)
noncomputable def gP:=eB (dR (cR bt) (dK (Q2 (eI .i64)))) (fun x:aC×Int=>dS x.1 x.2) (fun r:Bool =>.clean (.bool r))
theorem kI (p0_0:Int) (p0_1:(List Int)) (p0_2:ByteArray) (p0_3:Int) (p0_4:Int) (p1:Int):gP none [.agg [.int .i64 p0_0,.sl false false p0_1.length (ab (eI .i64) p0_1),.str p0_2,.int .i64 p0_3,.int .i64 p0_4],.ip [.int .i64 p1]]=(dS (aC.mk p0_0 p0_1 p0_2 p0_3 p0_4) p1).map fun r:Bool=>(.clean (.bool r),none):=aJ _ _ _ ((aC.mk p0_0 p0_1 p0_2 p0_3 p0_4),p1)
theorem qO (p0:aC) (p1:Int) (r:Bool) (hh:dS p0 p1=some r):aS .clean tab aU FU Tryz.f72 none [.agg [.int .i64 p0.cg,.sl false false p0.bo.length (ab (eI .i64) p0.bo),.str p0.bE,.int .i64 p0.ay,.int .i64 p0.aA],.ip [.int .i64 p1]]=some (.clean (.bool r),none):=by
 refine aw rfl Tryz.ntmps72 Tryz.results72 ?_
 unfold dS at hh
 cases hh
 try simp only[w,seval,-Int.reduceToNat]
theorem pQ:bN Tryz.prog 72 gP:=bN.of (mode := .clean) tok bT.none mixed Tryz.func72 (by kernel_rfl) ⟨by kernel_rfl,by kernel_rfl⟩ (fun _=>Nat.le_of_ble_eq_true (by kernel_rfl)) (fun x r h=>qO x.1 x.2 r h)
noncomputable def p9:=eB (dR (cR dx) (dK (aI .i64))) (fun x:av×Int=>kW x.1 x.2) (fun r:Bool =>.clean (.bool r))
theorem qU (p0_0:(List ak)) (p1:Int):p9 none [.agg [.sl false false p0_0.length (ab aq p0_0)],.int .i64 p1]=(kW (av.mk p0_0) p1).map fun r:Bool=>(.clean (.bool r),none):=aJ _ _ _ ((av.mk p0_0),p1)
theorem MG (p0:av) (p1:Int) (r:Bool) (hh:kW p0 p1=some r):aS .clean tab aU FU Tryz.f95 none [.agg [.sl false false p0.ag.length (ab aq p0.ag)],.int .i64 p1]=some (.clean (.bool r),none):=by
 refine aw rfl Tryz.ntmps95 Tryz.results95 ?_
 unfold kW at hh
 try simp only[w,seval,-Int.reduceToNat]
 refine sp bk hh (fun _ hh =>?_) (fun _ hh =>?_)
 ·cases hh
  try simp only[w,seval,-Int.reduceToNat]
 ·cases hh
  try simp only[w,seval,-Int.reduceToNat]
theorem zi:bN Tryz.prog 95 p9:=bN.of (mode := .clean) tok bT.none mixed Tryz.func95 (by kernel_rfl) ⟨by kernel_rfl,by kernel_rfl⟩ (fun _=>Nat.le_of_ble_eq_true (by kernel_rfl)) (fun x r h=>MG x.1 x.2 r h)
noncomputable def qe:=eB (dR (cR dx) (dK (iG (eI .i64)))) (fun x:av×(List Int)=>gW x.1 x.2) (fun r:Bool =>.clean (.bool r))
theorem xh (p0_0:(List ak)) (p1:(List Int)):qe none [.agg [.sl false false p0_0.length (ab aq p0_0)],.sl false false p1.length (ab (eI .i64) p1)]=(gW (av.mk p0_0) p1).map fun r:Bool=>(.clean (.bool r),none):=aJ _ _ _ ((av.mk p0_0),p1)
noncomputable def mY:Env:=(Am.ext (Am.ext aU 39 false fb) 95 false p9)
theorem DB:bT Tryz.prog mY:=((bT.none.add gx false).add zi false)
theorem bm:type_of% (ai @w<|ai @cU<|ai @qU<|@mY.eq_1):=⟨@w,@cU,@qU,@mY.eq_1⟩
theorem Hg (p0:av) (p1:(List Int)) (r:Bool) (hh:gW p0 p1=some r):aS .clean tab mY FU Tryz.f150 none [.agg [.sl false false p0.ag.length (ab aq p0.ag)],.sl false false p1.length (ab (eI .i64) p1)]=some (.clean (.bool r),none):=by
 refine aw rfl Tryz.ntmps150 Tryz.results150 ?_
 unfold gW at hh
 obtain⟨r1,hr1,hh⟩:=ae hh
 try simp only[bm,seval,-Int.reduceToNat,hr1]
 obtain⟨o2,ho2,hh⟩:=ae hh
 refine bH 0 (fun s t H e=>match s with|s15j1=>∃v2j1:Nat,t 1=.sl false false p1.length (ab (eI .i64) p1)∧t 2=.ptr 2 v2j1 0∧t 15=.bool s15j1∧H 2=some ⟨v2j1,24,[.sl false false p0.ag.length (ab aq p0.ag)],false,false,false⟩) (fun s=>s=o2) ?_ ?_
 ·rintro s15j1 t H e ⟨v2j1,Zj1⟩ rfl
  try dsimp only at hh
  try simp only[bm,seval,-Int.reduceToNat,hr1,Zj1]
  refine sp an hh (fun _ hh =>?_) (fun _ hh =>?_)
  ·cases hh
   try simp only[bm,seval,-Int.reduceToNat,hr1,Zj1]
  ·try simp only[bm,seval,-Int.reduceToNat,hr1,Zj1]
   obtain⟨o13,ho13,hh⟩:=ae hh
   refine aB (fun s t H e=>match s with|s18b=>∃v2b:Nat,t 1=.sl false false p1.length (ab (eI .i64) p1)∧t 2=.ptr 2 v2b 0∧t 16=.sl false false p1.length (ab (eI .i64) p1)∧t 17=.int .i64 (p1.length:Int)∧t 18=.int .i64 s18b∧H 2=some ⟨v2b,24,[.sl false false p0.ag.length (ab aq p0.ag)],false,false,false⟩) (fun o x t H e=>match o with|(.inl _)=>x=.exit 0|(.inr r)=>x=.ret∧gj .clean tab none [.tmp 4] ⟨t,H,e⟩=some (.clean (.bool r),none)) ho13 ?_ ?_ ?_
   ·refine⟨v2j1,?_,?_,?_,?_,?_,?_⟩
    all_goals first|rfl|(simp only[bm,seval,-Int.reduceToNat,hr1,Zj1]<;>rfl)
   ·rintro s18b t H e ⟨v2b,Zb⟩ c hh
    simp only[gg]at hh
    try simp only[bm,seval,-Int.reduceToNat,hr1,Zb]
    refine sp an hh (fun _ hh =>?_) (fun _ hh =>?_)
    ·obtain⟨x15,hx15,hh⟩:=ae hh
     have ax15:=bF (eI .i64) hx15
     simp only[bU]at ax15
     obtain⟨r16,hr16,hh⟩:=ae hh
     try simp only[bm,seval,-Int.reduceToNat,hr1,Zb,ax15,hr16]
     refine sp an hh (fun _ hh =>?_) (fun _ hh =>?_)
     ·cases hh
      try simp only[bm,seval,-Int.reduceToNat,hr1,Zb,ax15,hr16]
      refine ti ⟨rfl,?_⟩
      try simp only[bm,seval,-Int.reduceToNat,hr1,Zb,ax15,hr16]
     ·try simp only[bm,seval,-Int.reduceToNat,hr1,Zb,ax15,hr16]
      refine sp an hh (fun _ hh =>?_) (fun _ hh =>?_)
      ·obtain⟨x19,hx19,hh⟩:=ae hh
       have ax19:=bF (eI .i64) hx19
       simp only[bU]at ax19
       obtain⟨x20,hx20,hh⟩:=ae hh
       have ax20:=bF aq hx20
       simp only[bU]at ax20
       try simp only[bm,seval,-Int.reduceToNat,hr1,Zb,ax15,hr16,ax19,ax20]
       refine bX (by kernel_rfl) ?_
       try simp only[bm,seval,-Int.reduceToNat,hr1,Zb,ax15,hr16,ax19,ax20]
       refine sp bk hh (fun _ hh =>?_) (fun _ hh =>?_)
       ·try simp only[bm,seval,-Int.reduceToNat,hr1,Zb,ax15,hr16,ax19,ax20]
        refine sp an hh (fun _ hh =>?_) (fun _ hh =>?_)
        ·cases hh
         try simp only[bm,seval,-Int.reduceToNat,hr1,Zb,ax15,hr16,ax19,ax20]
         refine ti ⟨rfl,?_⟩
         try simp only[bm,seval,-Int.reduceToNat,hr1,Zb,ax15,hr16,ax19,ax20]
        ·cases hh
         try simp only[bm,seval,-Int.reduceToNat,hr1,Zb,ax15,hr16,ax19,ax20]
         refine iS ?_
         refine⟨v2b,?_,?_,?_,?_,?_,?_⟩
         all_goals first|rfl|(simp only[bm,seval,-Int.reduceToNat,hr1,Zb,ax15,hr16,ax19,ax20]<;>rfl)
       ·cases hh
        try simp only[bm,seval,-Int.reduceToNat,hr1,Zb,ax15,hr16,ax19,ax20]
        refine iS ?_
        refine⟨v2b,?_,?_,?_,?_,?_,?_⟩
        all_goals first|rfl|(simp only[bm,seval,-Int.reduceToNat,hr1,Zb,ax15,hr16,ax19,ax20]<;>rfl)
      ·cases hh
       try simp only[bm,seval,-Int.reduceToNat,hr1,Zb,ax15,hr16]
       refine iS ?_
       refine⟨v2b,?_,?_,?_,?_,?_,?_⟩
       all_goals first|rfl|(simp only[bm,seval,-Int.reduceToNat,hr1,Zb,ax15,hr16]<;>rfl)
    ·cases hh
     try simp only[bm,seval,-Int.reduceToNat,hr1,Zb]
     refine ki ?_
     exact rfl
   ·rintro x t H e hx
    rcases o13 with _|rb
    ·dsimp only at hx hh
     subst hx
     cases hh
     try simp only[bm,seval,-Int.reduceToNat,hr1]
    ·dsimp only at hx hh
     obtain⟨rfl,hE⟩:=hx
     cases hh
     try simp only[bq,bc,bC,cP,cO]
     exact hE
 ·clear hh
  have hh:=ho2
  try simp only[bm,seval,-Int.reduceToNat,hr1]
  refine sp aR hh (fun _ hh =>?_) (fun _ hh =>?_)
  ·cases hh
   try simp only[bm,seval,-Int.reduceToNat,hr1]
   rw[al]
   refine⟨_,rfl,?_⟩
   refine⟨0,?_,?_,?_,?_⟩
   all_goals first|rfl|(simp only[bm,seval,-Int.reduceToNat,hr1]<;>rfl)
  ·cases hh
   try simp only[bm,seval,-Int.reduceToNat,hr1]
   rw[al]
   refine⟨_,rfl,?_⟩
   refine⟨0,?_,?_,?_,?_⟩
   all_goals first|rfl|(simp only[bm,seval,-Int.reduceToNat,hr1]<;>rfl)
theorem DZ:bN Tryz.prog 150 qe:=bN.of (mode := .clean) tok DB mixed Tryz.func150 (by kernel_rfl) ⟨by kernel_rfl,by kernel_rfl⟩ (fun _=>Nat.le_of_ble_eq_true (by kernel_rfl)) (fun x r h=>Hg x.1 x.2 r h)
noncomputable def lK:=eB (dK (cR aq)) (fun x:ak=>fj x) (fun r:Bool =>.clean (.bool r))
theorem lZ (p0_0:ByteArray) (p0_1:Int) (p0_2:Int) (p0_3:Int) (p0_4:Int):lK none [.agg [.str p0_0,.int .i64 p0_1,.int .i64 p0_2,.int .i64 p0_3,.int .i64 p0_4]]=(fj (ak.mk p0_0 p0_1 p0_2 p0_3 p0_4)).map fun r:Bool=>(.clean (.bool r),none):=aJ _ _ _ ((ak.mk p0_0 p0_1 p0_2 p0_3 p0_4))
theorem DP (p0:ak) (r:Bool) (hh:fj p0=some r):aS .clean tab aU FU Tryz.f123 none [.agg [.str p0.bE,.int .i64 p0.ay,.int .i64 p0.aA,.int .i64 p0.aY,.int .i64 p0.aQ]]=some (.clean (.bool r),none):=by
 refine aw rfl Tryz.ntmps123 Tryz.results123 ?_
 unfold fj at hh
 cases hh
 try simp only[w,seval,-Int.reduceToNat]
theorem tz:bN Tryz.prog 123 lK:=bN.of (mode := .clean) tok bT.none mixed Tryz.func123 (by kernel_rfl) ⟨by kernel_rfl,by kernel_rfl⟩ (fun _=>Nat.le_of_ble_eq_true (by kernel_rfl)) (fun x r h=>DP x r h)
noncomputable def lL:=eB (dR (cR dx) (dR (aI .i64) (dR Ug (dR (aI .i64) (dK (aI .i64)))))) (fun x:av×Int×ByteArray×Int×Int=>gM x.1 x.2.1 x.2.2.1 x.2.2.2.1 x.2.2.2.2) (fun r:Bool =>.clean (.bool r))
theorem l3 (p0_0:(List ak)) (p1:Int) (p2:ByteArray) (p3:Int) (p4:Int):lL none [.agg [.sl false false p0_0.length (ab aq p0_0)],.int .i64 p1,.str p2,.int .i64 p3,.int .i64 p4]=(gM (av.mk p0_0) p1 p2 p3 p4).map fun r:Bool=>(.clean (.bool r),none):=aJ _ _ _ ((av.mk p0_0),p1,p2,p3,p4)
noncomputable def lU:Env:=(Am.ext (Am.ext aU 39 false fb) 91 false iM)
theorem BY:bT Tryz.prog lU:=((bT.none.add gx false).add mC false)
theorem cX:type_of% (ai @w<|ai @cU<|ai @gz<|@lU.eq_1):=⟨@w,@cU,@gz,@lU.eq_1⟩
theorem DQ (p0:av) (p1:Int) (p2:ByteArray) (p3:Int) (p4:Int) (r:Bool) (hh:gM p0 p1 p2 p3 p4=some r):aS .clean tab lU FU Tryz.f84 none [.agg [.sl false false p0.ag.length (ab aq p0.ag)],.int .i64 p1,.str p2,.int .i64 p3,.int .i64 p4]=some (.clean (.bool r),none):=by
 refine aw rfl Tryz.ntmps84 Tryz.results84 ?_
 unfold gM at hh
 obtain⟨r1,hr1,hh⟩:=ae hh
 try simp only[cX,seval,-Int.reduceToNat,hr1]
 obtain⟨o2,ho2,hh⟩:=ae hh
 refine bH 0 (fun s t H e=>match s with|s23j1=>∃v5j1:Nat,t 1=.int .i64 p1∧t 2=.str p2∧t 3=.int .i64 p3∧t 4=.int .i64 p4∧t 5=.ptr 5 v5j1 0∧t 23=.bool s23j1∧H 5=some ⟨v5j1,24,[.sl false false p0.ag.length (ab aq p0.ag)],false,false,false⟩) (fun s=>s=o2) ?_ ?_
 ·rintro s23j1 t H e ⟨v5j1,Zj1⟩ rfl
  try dsimp only at hh
  try simp only[cX,seval,-Int.reduceToNat,hr1,Zj1]
  refine sp an hh (fun _ hh =>?_) (fun _ hh =>?_)
  ·cases hh
   try simp only[cX,seval,-Int.reduceToNat,hr1,Zj1]
  ·obtain⟨x4,hx4,hh⟩:=ae hh
   have ax4:=bF aq hx4
   simp only[bU]at ax4
   try simp only[cX,seval,-Int.reduceToNat,hr1,Zj1,ax4]
   refine sp bk hh (fun _ hh =>?_) (fun _ hh =>?_)
   ·try simp only[cX,seval,-Int.reduceToNat,hr1,Zj1,ax4]
    refine sp bk hh (fun _ hh =>?_) (fun _ hh =>?_)
    ·cases hh
     try simp only[cX,seval,-Int.reduceToNat,hr1,Zj1,ax4]
    ·cases hh
     try simp only[cX,seval,-Int.reduceToNat,hr1,Zj1,ax4]
   ·cases hh
    try simp only[cX,seval,-Int.reduceToNat,hr1,Zj1,ax4]
 ·clear hh
  have hh:=ho2
  try simp only[cX,seval,-Int.reduceToNat,hr1]
  refine sp aR hh (fun _ hh =>?_) (fun _ hh =>?_)
  ·cases hh
   try simp only[cX,seval,-Int.reduceToNat,hr1]
   rw[al]
   refine⟨_,rfl,?_⟩
   refine⟨0,?_,?_,?_,?_,?_,?_,?_⟩
   all_goals first|rfl|(simp only[cX,seval,-Int.reduceToNat,hr1]<;>rfl)
  ·obtain⟨r8,hr8,hh⟩:=ae hh
   cases hh
   try simp only[cX,seval,-Int.reduceToNat,hr1,hr8]
   rw[al]
   refine⟨_,rfl,?_⟩
   refine⟨0,?_,?_,?_,?_,?_,?_,?_⟩
   all_goals first|rfl|(simp only[cX,seval,-Int.reduceToNat,hr1,hr8]<;>rfl)
theorem tA:bN Tryz.prog 84 lL:=bN.of (mode := .clean) tok BY mixed Tryz.func84 (by kernel_rfl) ⟨by kernel_rfl,by kernel_rfl⟩ (fun _=>Nat.le_of_ble_eq_true (by kernel_rfl)) (fun x r h=>DQ x.1 x.2.1 x.2.2.1 x.2.2.2.1 x.2.2.2.2 r h)
noncomputable def p8:=eB (dR (cR dx) (dR (iG (eI .i64)) (dR (aI .i64) (dR (aI .i64) (dR Ug (dR (aI .i64) (dK (aI .i64)))))))) (fun x:av×(List Int)×Int×Int×ByteArray×Int×Int=>jR x.1 x.2.1 x.2.2.1 x.2.2.2.1 x.2.2.2.2.1 x.2.2.2.2.2.1 x.2.2.2.2.2.2) (fun r:Bool =>.clean (.bool r))
theorem xf (p0_0:(List ak)) (p1:(List Int)) (p2:Int) (p3:Int) (p4:ByteArray) (p5:Int) (p6:Int):p8 none [.agg [.sl false false p0_0.length (ab aq p0_0)],.sl false false p1.length (ab (eI .i64) p1),.int .i64 p2,.int .i64 p3,.str p4,.int .i64 p5,.int .i64 p6]=(jR (av.mk p0_0) p1 p2 p3 p4 p5 p6).map fun r:Bool=>(.clean (.bool r),none):=aJ _ _ _ ((av.mk p0_0),p1,p2,p3,p4,p5,p6)
noncomputable def mW:Env:=(Am.ext (Am.ext (Am.ext aU 84 false lL) 123 false lK) 150 false qe)
theorem Dz:bT Tryz.prog mW:=(((bT.none.add tA false).add tz false).add DZ false)
theorem eO:type_of% (ai @w<|ai @l3<|ai @lZ<|ai @xh<|@mW.eq_1):=⟨@w,@l3,@lZ,@xh,@mW.eq_1⟩
theorem He (p0:av) (p1:(List Int)) (p2:Int) (p3:Int) (p4:ByteArray) (p5:Int) (p6:Int) (r:Bool) (hh:jR p0 p1 p2 p3 p4 p5 p6=some r):aS .clean tab mW FU Tryz.f108 none [.agg [.sl false false p0.ag.length (ab aq p0.ag)],.sl false false p1.length (ab (eI .i64) p1),.int .i64 p2,.int .i64 p3,.str p4,.int .i64 p5,.int .i64 p6]=some (.clean (.bool r),none):=by
 refine aw rfl Tryz.ntmps108 Tryz.results108 ?_
 unfold jR at hh
 obtain⟨r1,hr1,hh⟩:=ae hh
 try simp only[eO,seval,-Int.reduceToNat,hr1]
 refine sp an hh (fun _ hh =>?_) (fun _ hh =>?_)
 ·cases hh
  try simp only[eO,seval,-Int.reduceToNat,hr1]
 ·obtain⟨x3,hx3,hh⟩:=ae hh
  have ax3:=bF (eI .i64) hx3
  simp only[bU]at ax3
  obtain⟨x4,hx4,hh⟩:=ae hh
  have ax4:=bF aq hx4
  simp only[bU]at ax4
  obtain⟨x5,hx5,hh⟩:=ae hh
  have ax5:=bF (eI .i64) hx5
  simp only[bU]at ax5
  try simp only[eO,seval,-Int.reduceToNat,hr1,ax3,ax4,ax5]
  refine bX (by kernel_rfl) ?_
  try simp only[eO,seval,-Int.reduceToNat,hr1,ax3,ax4,ax5]
  refine sp bk hh (fun _ hh =>?_) (fun _ hh =>?_)
  ·try simp only[eO,seval,-Int.reduceToNat,hr1,ax3,ax4,ax5]
   refine sp bk hh (fun _ hh =>?_) (fun _ hh =>?_)
   ·obtain⟨x8,hx8,hh⟩:=ae hh
    have ax8:=bF aq hx8
    simp only[bU]at ax8
    obtain⟨r9,hr9,hh⟩:=ae hh
    try simp only[eO,seval,-Int.reduceToNat,hr1,ax3,ax4,ax5,ax8,hr9]
    refine sp bk hh (fun _ hh =>?_) (fun _ hh =>?_)
    ·obtain⟨r11,hr11,hh⟩:=ae hh
     cases hh
     try simp only[eO,seval,-Int.reduceToNat,hr1,ax3,ax4,ax5,ax8,hr9,hr11]
    ·cases hh
     try simp only[eO,seval,-Int.reduceToNat,hr1,ax3,ax4,ax5,ax8,hr9]
   ·cases hh
    try simp only[eO,seval,-Int.reduceToNat,hr1,ax3,ax4,ax5]
  ·cases hh
   try simp only[eO,seval,-Int.reduceToNat,hr1,ax3,ax4,ax5]
theorem DX:bN Tryz.prog 108 p8:=bN.of (mode := .clean) tok Dz mixed Tryz.func108 (by kernel_rfl) ⟨by kernel_rfl,by kernel_rfl⟩ (fun _=>Nat.le_of_ble_eq_true (by kernel_rfl)) (fun x r h=>He x.1 x.2.1 x.2.2.1 x.2.2.2.1 x.2.2.2.2.1 x.2.2.2.2.2.1 x.2.2.2.2.2.2 r h)
noncomputable def jk:=eB (dR (cR Aq) (dK (cR bt))) (fun x:jM×aC=>dZ x.1 x.2) (fun r:Bool =>.clean (.bool r))
theorem mH (p0_0:(List ak)) (p0_1:Int) (p0_2:Int) (p0_3:Int) (p1_0:Int) (p1_1:(List Int)) (p1_2:ByteArray) (p1_3:Int) (p1_4:Int):jk none [.agg [.sl false false p0_0.length (ab aq p0_0),.int .i64 p0_1,.int .i64 p0_2,.int .i64 p0_3],.agg [.int .i64 p1_0,.sl false false p1_1.length (ab (eI .i64) p1_1),.str p1_2,.int .i64 p1_3,.int .i64 p1_4]]=(dZ (jM.mk (av.mk p0_0) p0_1 p0_2 p0_3) (aC.mk p1_0 p1_1 p1_2 p1_3 p1_4)).map fun r:Bool=>(.clean (.bool r),none):=aJ _ _ _ ((jM.mk (av.mk p0_0) p0_1 p0_2 p0_3),(aC.mk p1_0 p1_1 p1_2 p1_3 p1_4))
noncomputable def gp:Env:=(Am.ext aU 108 false p8)
theorem s5:bT Tryz.prog gp:=(bT.none.add DX false)
theorem cd:type_of% (ai @w<|ai @xf<|@gp.eq_1):=⟨@w,@xf,@gp.eq_1⟩
theorem uJ (p0:jM) (p1:aC) (r:Bool) (hh:dZ p0 p1=some r):aS .clean tab gp FU Tryz.f73 none [.agg [.sl false false p0.Uz.ag.length (ab aq p0.Uz.ag),.int .i64 p0.xZ,.int .i64 p0.tT,.int .i64 p0.tS],.agg [.int .i64 p1.cg,.sl false false p1.bo.length (ab (eI .i64) p1.bo),.str p1.bE,.int .i64 p1.ay,.int .i64 p1.aA]]=some (.clean (.bool r),none):=by
 refine aw rfl Tryz.ntmps73 Tryz.results73 ?_
 unfold dZ at hh
 try simp only[cd,seval,-Int.reduceToNat]
 refine sp ji hh (fun _ hh =>?_) (fun _ hh =>?_)
 ·obtain⟨x2,hx2,hh⟩:=ae hh
  have ax2:=bF (eI .i64) hx2
  simp only[bU]at ax2
  try simp only[cd,seval,-Int.reduceToNat,ax2]
  refine sp ji hh (fun _ hh =>?_) (fun _ hh =>?_)
  ·obtain⟨x4,hx4,hh⟩:=ae hh
   have ax4:=bF (eI .i64) hx4
   simp only[bU]at ax4
   try simp only[cd,seval,-Int.reduceToNat,ax2,ax4]
   refine sp ji hh (fun _ hh =>?_) (fun _ hh =>?_)
   ·obtain⟨r6,hr6,hh⟩:=ae hh
    try simp only[cd,seval,-Int.reduceToNat,ax2,ax4,hr6]
    refine bX (by kernel_rfl) ?_
    cases hh
    try simp only[cd,seval,-Int.reduceToNat,ax2,ax4,hr6]
   ·try simp only[cd,seval,-Int.reduceToNat,ax2,ax4]
    refine bX (by kernel_rfl) ?_
    cases hh
    try simp only[cd,seval,-Int.reduceToNat,ax2,ax4]
  ·try simp only[cd,seval,-Int.reduceToNat,ax2]
   refine bX (by kernel_rfl) ?_
   cases hh
   try simp only[cd,seval,-Int.reduceToNat,ax2]
 ·try simp only[cd,seval,-Int.reduceToNat]
  refine bX (by kernel_rfl) ?_
  cases hh
  try simp only[cd,seval,-Int.reduceToNat]
theorem tq:bN Tryz.prog 73 jk:=bN.of (mode := .clean) tok s5 mixed Tryz.func73 (by kernel_rfl) ⟨by kernel_rfl,by kernel_rfl⟩ (fun _=>Nat.le_of_ble_eq_true (by kernel_rfl)) (fun x r h=>uJ x.1 x.2 r h)
noncomputable def AE:=eB (dK (aI .i64)) (fun x:Int=>sC x) (fun r:az =>.clean (.agg [.int .i64 r.aj,.sl false false r.aa.length (ab (eI .i64) r.aa)]))
theorem KR (p0:Int):AE none [.int .i64 p0]=(sC p0).map fun r:az=>(.clean (.agg [.int .i64 r.aj,.sl false false r.aa.length (ab (eI .i64) r.aa)]),none):=aJ _ _ _ (p0)
noncomputable def wP:Env:=(Am.ext aU 126 false kl)
theorem PU:bT Tryz.prog wP:=(bT.none.add pt false)
theorem fW:type_of% (ai @w<|ai @je<|@wP.eq_1):=⟨@w,@je,@wP.eq_1⟩
theorem Sp (p0:Int) (r:az) (hh:sC p0=some r):aS .clean tab wP FU Tryz.f109 none [.int .i64 p0]=some (.clean (.agg [.int .i64 r.aj,.sl false false r.aa.length (ab (eI .i64) r.aa)]),none):=by
 refine aw rfl Tryz.ntmps109 Tryz.results109 ?_
 unfold sC at hh
 try simp only[fW,seval,-Int.reduceToNat]
 obtain⟨o1,ho1,hh⟩:=ae hh
 refine kX 0 (fun s t H e=>match s with|(s3j1,s4j1)=>∃v2j1:Nat,t 2=.ptr 2 v2j1 0∧t 3=.int .i64 s3j1∧t 4=.int .u64 s4j1∧H 2=some ⟨v2j1,49,[.int .i64 0,.sl true true 0 []],false,false,false⟩) (fun s=>s=o1) ?_ ?_
 ·rintro⟨s3j1,s4j1⟩ t H e ⟨v2j1,Zj1⟩ rfl
  try dsimp only at hh
  try simp only[fW,seval,-Int.reduceToNat,Zj1]
  obtain⟨o7,ho7,hh⟩:=ae hh
  refine aB (fun s t H e=>match s with|(s4b,l5b)=>∃v2b:Nat,∃v5b:Nat,t 2=.ptr 2 v2b 0∧t 3=.int .i64 s3j1∧t 4=.int .u64 s4b∧t 5=.buf 5 v5b 1 0 (l5b).length∧H 2=some ⟨v2b,49,[.int .i64 0,.sl true true 0 []],false,false,false⟩∧H 5=some ⟨v5b,3,ab (eI .i64) l5b,false,true,false⟩) (fun o x t H e=>match o with|l5bx=>x=.exit 0∧∃v2bx:Nat,∃v5bx:Nat,t 2=.ptr 2 v2bx 0∧t 3=.int .i64 s3j1∧t 5=.buf 5 v5bx 1 0 (l5bx).length∧H 2=some ⟨v2bx,49,[.int .i64 0,.sl true true 0 []],false,false,false⟩∧H 5=some ⟨v5bx,3,ab (eI .i64) l5bx,false,true,false⟩) ho7 ?_ ?_ ?_
  ·refine⟨v2j1,e,?_,?_,?_,?_,?_,?_⟩
   all_goals first|rfl|(simp only[fW,seval,-Int.reduceToNat,Zj1]<;>rfl)
  ·rintro⟨s4b,l5b⟩ t H e ⟨v2b,v5b,Zb⟩ c hh
   simp only[tM]at hh
   try simp only[fW,seval,-Int.reduceToNat,Zb]
   refine sp an hh (fun _ hh =>?_) (fun _ hh =>?_)
   ·obtain⟨x9,hx9,hh⟩:=ae hh
    obtain⟨q10a,q10b,q10c,q10d⟩:=fD (eI .i64) hx9
    simp only[bU]at q10b
    obtain⟨x11,hx11,hh⟩:=ae hh
    have q12:=rp hx11
    cases hh
    try simp only[fW,seval,-Int.reduceToNat,Zb,q10a,q10b,q10c,q10d,q12]
    refine iS ?_
    refine⟨v2b,e+1,?_,?_,?_,?_,?_,?_⟩
    all_goals first|rfl|(simp only[fW,seval,-Int.reduceToNat,Zb,q10a,q10b,q10c,q10d,q12]<;>rfl)
   ·cases hh
    try simp only[fW,seval,-Int.reduceToNat,Zb]
    refine ki ?_
    refine⟨rfl,⟨v2b,v5b,?_,?_,?_,?_,?_⟩⟩
    all_goals first|rfl|(simp only[fW,seval,-Int.reduceToNat,Zb]<;>rfl)
  ·rintro x t H e hx
   obtain⟨l5bx,rfl⟩:∃z,z=o7:=⟨_,rfl⟩
   dsimp only at hx hh
   obtain⟨rfl,⟨v2bx,v5bx,Zbx⟩⟩:=hx
   obtain⟨r13,hr13,hh⟩:=ae hh
   cases hh
   try simp only[fW,seval,-Int.reduceToNat,Zbx,hr13]
 ·clear hh
  have hh:=ho1
  try simp only[fW,seval,-Int.reduceToNat]
  refine sp an hh (fun _ hh =>?_) (fun _ hh =>?_)
  ·cases hh
   try simp only[fW,seval,-Int.reduceToNat]
   rw[al]
   refine⟨_,rfl,?_⟩
   refine⟨0,?_,?_,?_,?_⟩
   all_goals first|rfl|(simp only[fW,seval,-Int.reduceToNat]<;>rfl)
  ·cases hh
   try simp only[fW,seval,-Int.reduceToNat]
   rw[al]
   refine⟨_,rfl,?_⟩
   refine⟨0,?_,?_,?_,?_⟩
   all_goals first|rfl|(simp only[fW,seval,-Int.reduceToNat]<;>rfl)
theorem Qm:bN Tryz.prog 109 AE:=bN.of (mode := .clean) tok PU mixed Tryz.func109 (by kernel_rfl) ⟨by kernel_rfl,by kernel_rfl⟩ (fun _=>Nat.le_of_ble_eq_true (by kernel_rfl)) (fun x r h=>Sp x r h)
noncomputable def vz:=eB (dK (aI .i64)) (fun x:Int=>nY x) (fun r:ba =>.clean (.agg [.int .i64 r.cz.aj,.sl false false r.cz.aa.length (ab (eI .i64) r.cz.aa),.int .i64 r.cw.aj,.sl false false r.cw.aa.length (ab (eI .i64) r.cw.aa)]))
theorem CA (p0:Int):vz none [.int .i64 p0]=(nY p0).map fun r:ba=>(.clean (.agg [.int .i64 r.cz.aj,.sl false false r.cz.aa.length (ab (eI .i64) r.cz.aa),.int .i64 r.cw.aj,.sl false false r.cw.aa.length (ab (eI .i64) r.cw.aa)]),none):=aJ _ _ _ (p0)
noncomputable def qC:Env:=(Am.ext aU 109 false AE)
theorem Jn:bT Tryz.prog qC:=(bT.none.add Qm false)
theorem Ny:type_of% (ai @w<|ai @KR<|@qC.eq_1):=⟨@w,@KR,@qC.eq_1⟩
theorem Mu (p0:Int) (r:ba) (hh:nY p0=some r):aS .clean tab qC FU Tryz.f74 none [.int .i64 p0]=some (.clean (.agg [.int .i64 r.cz.aj,.sl false false r.cz.aa.length (ab (eI .i64) r.cz.aa),.int .i64 r.cw.aj,.sl false false r.cw.aa.length (ab (eI .i64) r.cw.aa)]),none):=by
 refine aw rfl Tryz.ntmps74 Tryz.results74 ?_
 unfold nY at hh
 obtain⟨r1,hr1,hh⟩:=ae hh
 obtain⟨r2,hr2,hh⟩:=ae hh
 cases hh
 try simp only[Ny,seval,-Int.reduceToNat,hr1,hr2]
theorem KE:bN Tryz.prog 74 vz:=bN.of (mode := .clean) tok Jn mixed Tryz.func74 (by kernel_rfl) ⟨by kernel_rfl,by kernel_rfl⟩ (fun _=>Nat.le_of_ble_eq_true (by kernel_rfl)) (fun x r h=>Mu x r h)
noncomputable def vG:=eB (dR (cR mA) (dK (cR mz))) (fun x:ew×ba=>kU x.1 x.2) (fun r:Bool =>.clean (.bool r))
theorem CF (p0_0:Int) (p0_1:(List Int)) (p0_2:Int) (p0_3:(List Int)) (p0_4:Int) (p0_5:(List Int)) (p0_6:Int) (p0_7:(List Int)) (p1_0:Int) (p1_1:(List Int)) (p1_2:Int) (p1_3:(List Int)):vG none [.agg [.int .i64 p0_0,.sl false false p0_1.length (ab (eI .i64) p0_1),.int .i64 p0_2,.sl false false p0_3.length (ab (eI .i64) p0_3),.int .i64 p0_4,.sl false false p0_5.length (ab (eI .i64) p0_5),.int .i64 p0_6,.sl false false p0_7.length (ab (eI .i64) p0_7)],.agg [.int .i64 p1_0,.sl false false p1_1.length (ab (eI .i64) p1_1),.int .i64 p1_2,.sl false false p1_3.length (ab (eI .i64) p1_3)]]=(kU (ew.mk (ba.mk (az.mk p0_0 p0_1) (az.mk p0_2 p0_3)) (ba.mk (az.mk p0_4 p0_5) (az.mk p0_6 p0_7))) (ba.mk (az.mk p1_0 p1_1) (az.mk p1_2 p1_3))).map fun r:Bool=>(.clean (.bool r),none):=aJ _ _ _ ((ew.mk (ba.mk (az.mk p0_0 p0_1) (az.mk p0_2 p0_3)) (ba.mk (az.mk p0_4 p0_5) (az.mk p0_6 p0_7))),(ba.mk (az.mk p1_0 p1_1) (az.mk p1_2 p1_3)))
noncomputable def qL:Env:=(Am.ext (Am.ext (Am.ext aU 30 false mI) 57 false kn) 58 false km)
theorem Jw:bT Tryz.prog qL:=(((bT.none.add vb false).add py false).add rN false)
theorem jW:type_of% (ai @w<|ai @np<|ai @jf<|ai @kK<|@qL.eq_1):=⟨@w,@np,@jf,@kK,@qL.eq_1⟩
theorem MF (p0:ew) (p1:ba) (r:Bool) (hh:kU p0 p1=some r):aS .clean tab qL FU Tryz.f31 none [.agg [.int .i64 p0.bB.cz.aj,.sl false false p0.bB.cz.aa.length (ab (eI .i64) p0.bB.cz.aa),.int .i64 p0.bB.cw.aj,.sl false false p0.bB.cw.aa.length (ab (eI .i64) p0.bB.cw.aa),.int .i64 p0.aV.cz.aj,.sl false false p0.aV.cz.aa.length (ab (eI .i64) p0.aV.cz.aa),.int .i64 p0.aV.cw.aj,.sl false false p0.aV.cw.aa.length (ab (eI .i64) p0.aV.cw.aa)],.agg [.int .i64 p1.cz.aj,.sl false false p1.cz.aa.length (ab (eI .i64) p1.cz.aa),.int .i64 p1.cw.aj,.sl false false p1.cw.aa.length (ab (eI .i64) p1.cw.aa)]]=some (.clean (.bool r),none):=by
 refine aw rfl Tryz.ntmps31 Tryz.results31 ?_
 unfold kU at hh
 obtain⟨r1,hr1,hh⟩:=ae hh
 try simp only[jW,seval,-Int.reduceToNat,hr1]
 refine sp bk hh (fun _ hh =>?_) (fun _ hh =>?_)
 ·obtain⟨r3,hr3,hh⟩:=ae hh
  try simp only[jW,seval,-Int.reduceToNat,hr1,hr3]
  refine sp bk hh (fun _ hh =>?_) (fun _ hh =>?_)
  ·obtain⟨r5,hr5,hh⟩:=ae hh
   try simp only[jW,seval,-Int.reduceToNat,hr1,hr3,hr5]
   refine sp bk hh (fun _ hh =>?_) (fun _ hh =>?_)
   ·obtain⟨r7,hr7,hh⟩:=ae hh
    cases hh
    try simp only[jW,seval,-Int.reduceToNat,hr1,hr3,hr5,hr7]
   ·cases hh
    try simp only[jW,seval,-Int.reduceToNat,hr1,hr3,hr5]
  ·cases hh
   try simp only[jW,seval,-Int.reduceToNat,hr1,hr3]
 ·cases hh
  try simp only[jW,seval,-Int.reduceToNat,hr1]
theorem KL:bN Tryz.prog 31 vG:=bN.of (mode := .clean) tok Jw mixed Tryz.func31 (by kernel_rfl) ⟨by kernel_rfl,by kernel_rfl⟩ (fun _=>Nat.le_of_ble_eq_true (by kernel_rfl)) (fun x r h=>MF x.1 x.2 r h)
noncomputable def gQ:=eB (dR (cR aW) (dR (Q2 (eI .i64)) (dK (Q2 mz)))) (fun x:aG×Int×ba=>dT x.1 x.2.1 x.2.2) (fun r:Bool =>.clean (.bool r))
theorem kJ (p0_0:Int) (p0_1:Int) (p0_2:(List Int)) (p0_3:Int) (p0_4:(List Int)) (p0_5:Int) (p0_6:(List Int)) (p0_7:Int) (p0_8:(List Int)) (p1:Int) (p2_0:Int) (p2_1:(List Int)) (p2_2:Int) (p2_3:(List Int)):gQ none [.agg [.int .i64 p0_0,.int .i64 p0_1,.sl false false p0_2.length (ab (eI .i64) p0_2),.int .i64 p0_3,.sl false false p0_4.length (ab (eI .i64) p0_4),.int .i64 p0_5,.sl false false p0_6.length (ab (eI .i64) p0_6),.int .i64 p0_7,.sl false false p0_8.length (ab (eI .i64) p0_8)],.ip [.int .i64 p1],.ip [.int .i64 p2_0,.sl false false p2_1.length (ab (eI .i64) p2_1),.int .i64 p2_2,.sl false false p2_3.length (ab (eI .i64) p2_3)]]=(dT (aG.mk p0_0 (ew.mk (ba.mk (az.mk p0_1 p0_2) (az.mk p0_3 p0_4)) (ba.mk (az.mk p0_5 p0_6) (az.mk p0_7 p0_8)))) p1 (ba.mk (az.mk p2_0 p2_1) (az.mk p2_2 p2_3))).map fun r:Bool=>(.clean (.bool r),none):=aJ _ _ _ ((aG.mk p0_0 (ew.mk (ba.mk (az.mk p0_1 p0_2) (az.mk p0_3 p0_4)) (ba.mk (az.mk p0_5 p0_6) (az.mk p0_7 p0_8)))),p1,(ba.mk (az.mk p2_0 p2_1) (az.mk p2_2 p2_3)))
noncomputable def e9:Env:=(Am.ext aU 31 false vG)
theorem pI:bT Tryz.prog e9:=(bT.none.add KL false)
theorem gX:type_of% (ai @w<|ai @CF<|@e9.eq_1):=⟨@w,@CF,@e9.eq_1⟩
theorem qP (p0:aG) (p1:Int) (p2:ba) (r:Bool) (hh:dT p0 p1 p2=some r):aS .clean tab e9 FU Tryz.f75 none [.agg [.int .i64 p0.cg,.int .i64 p0.bL.bB.cz.aj,.sl false false p0.bL.bB.cz.aa.length (ab (eI .i64) p0.bL.bB.cz.aa),.int .i64 p0.bL.bB.cw.aj,.sl false false p0.bL.bB.cw.aa.length (ab (eI .i64) p0.bL.bB.cw.aa),.int .i64 p0.bL.aV.cz.aj,.sl false false p0.bL.aV.cz.aa.length (ab (eI .i64) p0.bL.aV.cz.aa),.int .i64 p0.bL.aV.cw.aj,.sl false false p0.bL.aV.cw.aa.length (ab (eI .i64) p0.bL.aV.cw.aa)],.ip [.int .i64 p1],.ip [.int .i64 p2.cz.aj,.sl false false p2.cz.aa.length (ab (eI .i64) p2.cz.aa),.int .i64 p2.cw.aj,.sl false false p2.cw.aa.length (ab (eI .i64) p2.cw.aa)]]=some (.clean (.bool r),none):=by
 refine aw rfl Tryz.ntmps75 Tryz.results75 ?_
 unfold dT at hh
 try simp only[gX,seval,-Int.reduceToNat]
 refine sp bk hh (fun _ hh =>?_) (fun _ hh =>?_)
 ·obtain⟨r2,hr2,hh⟩:=ae hh
  cases hh
  try simp only[gX,seval,-Int.reduceToNat,hr2]
 ·cases hh
  try simp only[gX,seval,-Int.reduceToNat]
theorem pR:bN Tryz.prog 75 gQ:=bN.of (mode := .clean) tok pI mixed Tryz.func75 (by kernel_rfl) ⟨by kernel_rfl,by kernel_rfl⟩ (fun _=>Nat.le_of_ble_eq_true (by kernel_rfl)) (fun x r h=>qP x.1 x.2.1 x.2.2 r h)
noncomputable def cK:=eB (dR (iG bt) (dK (Q1 72 0 (dK (Q2 (eI .i64)))))) (fun x:(List aC)×(Int)=>bg x.1 x.2) (fun r:Int =>.clean (.int .i64 r))
theorem ef (p0:(List aC)) (p1c0:Int):cK none [.sl false false p0.length (ab bt p0),.clo 72 0 [.ip [.int .i64 p1c0]]]=(bg p0 p1c0).map fun r:Int=>(.clean (.int .i64 r),none):=aJ _ _ _ (p0,(p1c0))
noncomputable def cj:Env:=(Am.ext aU 72 false gP)
theorem gD:bT Tryz.prog cj:=(bT.none.add pQ false)
theorem aE:type_of% (ai @w<|ai @kI<|@cj.eq_1):=⟨@w,@kI,@cj.eq_1⟩
theorem gT (p0:(List aC)) (p1c0:Int) (r:Int) (hh:bg p0 p1c0=some r):aS .clean tab cj FU Tryz.f71 none [.sl false false p0.length (ab bt p0),.clo 72 0 [.ip [.int .i64 p1c0]]]=some (.clean (.int .i64 r),none):=by
 refine aw rfl Tryz.ntmps71 Tryz.results71 ?_
 unfold bg at hh
 try simp only[aE,seval,-Int.reduceToNat]
 obtain⟨o5,ho5,hh⟩:=ae hh
 refine aB (fun s t H e=>match s with|s8a=>t 0=.sl false false p0.length (ab bt p0)∧t 1=.clo 72 0 [.ip [.int .i64 p1c0]]∧t 7=.int .i64 (p0.length:Int)∧t 8=.int .i64 s8a) (fun o x t H e=>match o with|(.inl _)=>x=.exit 0|(.inr r)=>x=.ret∧gj .clean tab none [.tmp 4] ⟨t,H,e⟩=some (.clean (.int .i64 r),none)) ho5 ?_ ?_ ?_
 ·refine⟨?_,?_,?_,?_⟩
  all_goals first|rfl|(simp only[aE,seval,-Int.reduceToNat]<;>rfl)
 ·rintro s8a t H e Za c hh
  simp only[cc]at hh
  try simp only[aE,seval,-Int.reduceToNat,Za]
  refine sp an hh (fun _ hh =>?_) (fun _ hh =>?_)
  ·obtain⟨x7,hx7,hh⟩:=ae hh
   have ax7:=bF bt hx7
   simp only[bU]at ax7
   obtain⟨r8,hr8,hh⟩:=ae hh
   try simp only[aE,seval,-Int.reduceToNat,Za,ax7,hr8]
   refine sp an hh (fun _ hh =>?_) (fun _ hh =>?_)
   ·cases hh
    try simp only[aE,seval,-Int.reduceToNat,Za,ax7,hr8]
    refine ti ⟨rfl,?_⟩
    try simp only[aE,seval,-Int.reduceToNat,Za,ax7,hr8]
   ·cases hh
    try simp only[aE,seval,-Int.reduceToNat,Za,ax7,hr8]
    refine iS ?_
    refine⟨?_,?_,?_,?_⟩
    all_goals first|rfl|(simp only[aE,seval,-Int.reduceToNat,Za,ax7,hr8]<;>rfl)
  ·cases hh
   try simp only[aE,seval,-Int.reduceToNat,Za]
   refine ki ?_
   exact rfl
 ·rintro x t H e hx
  rcases o5 with _|ra
  ·dsimp only at hx hh
   subst hx
   cases hh
   try simp only[aE,seval,-Int.reduceToNat]
  ·dsimp only at hx hh
   obtain⟨rfl,hE⟩:=hx
   cases hh
   try simp only[bq,bc,bC,cP,cO]
   exact hE
theorem gF:bN Tryz.prog 71 cK:=bN.of (mode := .clean) tok gD mixed Tryz.func71 (by kernel_rfl) ⟨by kernel_rfl,by kernel_rfl⟩ (fun _=>Nat.le_of_ble_eq_true (by kernel_rfl)) (fun x r h=>gT x.1 x.2 r h)
noncomputable def dj:=eB (dR (iG aW) (dK (Q1 75 0 (dR (Q2 (eI .i64)) (dK (Q2 mz)))))) (fun x:(List aG)×(Int×ba)=>bK x.1 x.2.1 x.2.2) (fun r:Int =>.clean (.int .i64 r))
theorem eJ (p0:(List aG)) (p1c0:Int) (p1c1_0:Int) (p1c1_1:(List Int)) (p1c1_2:Int) (p1c1_3:(List Int)):dj none [.sl false false p0.length (ab aW p0),.clo 75 0 [.ip [.int .i64 p1c0],.ip [.int .i64 p1c1_0,.sl false false p1c1_1.length (ab (eI .i64) p1c1_1),.int .i64 p1c1_2,.sl false false p1c1_3.length (ab (eI .i64) p1c1_3)]]]=(bK p0 p1c0 (ba.mk (az.mk p1c1_0 p1c1_1) (az.mk p1c1_2 p1c1_3))).map fun r:Int=>(.clean (.int .i64 r),none):=aJ _ _ _ (p0,(p1c0,(ba.mk (az.mk p1c1_0 p1c1_1) (az.mk p1c1_2 p1c1_3))))
noncomputable def cq:Env:=(Am.ext aU 75 false gQ)
theorem iy:bT Tryz.prog cq:=(bT.none.add pR false)
theorem aK:type_of% (ai @w<|ai @kJ<|@cq.eq_1):=⟨@w,@kJ,@cq.eq_1⟩
theorem iI (p0:(List aG)) (p1c0:Int) (p1c1:ba) (r:Int) (hh:bK p0 p1c0 p1c1=some r):aS .clean tab cq FU Tryz.f68 none [.sl false false p0.length (ab aW p0),.clo 75 0 [.ip [.int .i64 p1c0],.ip [.int .i64 p1c1.cz.aj,.sl false false p1c1.cz.aa.length (ab (eI .i64) p1c1.cz.aa),.int .i64 p1c1.cw.aj,.sl false false p1c1.cw.aa.length (ab (eI .i64) p1c1.cw.aa)]]]=some (.clean (.int .i64 r),none):=by
 refine aw rfl Tryz.ntmps68 Tryz.results68 ?_
 unfold bK at hh
 try simp only[aK,seval,-Int.reduceToNat]
 obtain⟨o5,ho5,hh⟩:=ae hh
 refine aB (fun s t H e=>match s with|s8a=>t 0=.sl false false p0.length (ab aW p0)∧t 1=.clo 75 0 [.ip [.int .i64 p1c0],.ip [.int .i64 p1c1.cz.aj,.sl false false p1c1.cz.aa.length (ab (eI .i64) p1c1.cz.aa),.int .i64 p1c1.cw.aj,.sl false false p1c1.cw.aa.length (ab (eI .i64) p1c1.cw.aa)]]∧t 7=.int .i64 (p0.length:Int)∧t 8=.int .i64 s8a) (fun o x t H e=>match o with|(.inl _)=>x=.exit 0|(.inr r)=>x=.ret∧gj .clean tab none [.tmp 4] ⟨t,H,e⟩=some (.clean (.int .i64 r),none)) ho5 ?_ ?_ ?_
 ·refine⟨?_,?_,?_,?_⟩
  all_goals first|rfl|(simp only[aK,seval,-Int.reduceToNat]<;>rfl)
 ·rintro s8a t H e Za c hh
  simp only[cm]at hh
  try simp only[aK,seval,-Int.reduceToNat,Za]
  refine sp an hh (fun _ hh =>?_) (fun _ hh =>?_)
  ·obtain⟨x7,hx7,hh⟩:=ae hh
   have ax7:=bF aW hx7
   simp only[bU]at ax7
   obtain⟨r8,hr8,hh⟩:=ae hh
   try simp only[aK,seval,-Int.reduceToNat,Za,ax7,hr8]
   refine sp an hh (fun _ hh =>?_) (fun _ hh =>?_)
   ·cases hh
    try simp only[aK,seval,-Int.reduceToNat,Za,ax7,hr8]
    refine ti ⟨rfl,?_⟩
    try simp only[aK,seval,-Int.reduceToNat,Za,ax7,hr8]
   ·cases hh
    try simp only[aK,seval,-Int.reduceToNat,Za,ax7,hr8]
    refine iS ?_
    refine⟨?_,?_,?_,?_⟩
    all_goals first|rfl|(simp only[aK,seval,-Int.reduceToNat,Za,ax7,hr8]<;>rfl)
  ·cases hh
   try simp only[aK,seval,-Int.reduceToNat,Za]
   refine ki ?_
   exact rfl
 ·rintro x t H e hx
  rcases o5 with _|ra
  ·dsimp only at hx hh
   subst hx
   cases hh
   try simp only[aK,seval,-Int.reduceToNat]
  ·dsimp only at hx hh
   obtain⟨rfl,hE⟩:=hx
   cases hh
   try simp only[bq,bc,bC,cP,cO]
   exact hE
theorem iz:bN Tryz.prog 68 dj:=bN.of (mode := .clean) tok iy mixed Tryz.func68 (by kernel_rfl) ⟨by kernel_rfl,by kernel_rfl⟩ (fun _=>Nat.le_of_ble_eq_true (by kernel_rfl)) (fun x r h=>iI x.1 x.2.1 x.2.2 r h)
noncomputable def cJ:=eB (dR (iG aW) (dK (Q1 75 0 (dR (Q2 (eI .i64)) (dK (Q2 mz)))))) (fun x:(List aG)×(Int×ba)=>bf x.1 x.2.1 x.2.2) (fun r:Bool =>.clean (.bool r))
theorem ee (p0:(List aG)) (p1c0:Int) (p1c1_0:Int) (p1c1_1:(List Int)) (p1c1_2:Int) (p1c1_3:(List Int)):cJ none [.sl false false p0.length (ab aW p0),.clo 75 0 [.ip [.int .i64 p1c0],.ip [.int .i64 p1c1_0,.sl false false p1c1_1.length (ab (eI .i64) p1c1_1),.int .i64 p1c1_2,.sl false false p1c1_3.length (ab (eI .i64) p1c1_3)]]]=(bf p0 p1c0 (ba.mk (az.mk p1c1_0 p1c1_1) (az.mk p1c1_2 p1c1_3))).map fun r:Bool=>(.clean (.bool r),none):=aJ _ _ _ (p0,(p1c0,(ba.mk (az.mk p1c1_0 p1c1_1) (az.mk p1c1_2 p1c1_3))))
noncomputable def ch:Env:=(Am.ext aU 68 false dj)
theorem gC:bT Tryz.prog ch:=(bT.none.add iz false)
theorem gY:type_of% (ai @w<|ai @eJ<|@ch.eq_1):=⟨@w,@eJ,@ch.eq_1⟩
theorem gS (p0:(List aG)) (p1c0:Int) (p1c1:ba) (r:Bool) (hh:bf p0 p1c0 p1c1=some r):aS .clean tab ch FU Tryz.f40 none [.sl false false p0.length (ab aW p0),.clo 75 0 [.ip [.int .i64 p1c0],.ip [.int .i64 p1c1.cz.aj,.sl false false p1c1.cz.aa.length (ab (eI .i64) p1c1.cz.aa),.int .i64 p1c1.cw.aj,.sl false false p1c1.cw.aa.length (ab (eI .i64) p1c1.cw.aa)]]]=some (.clean (.bool r),none):=by
 refine aw rfl Tryz.ntmps40 Tryz.results40 ?_
 unfold bf at hh
 obtain⟨r1,hr1,hh⟩:=ae hh
 cases hh
 try simp only[gY,seval,-Int.reduceToNat,hr1]
theorem gE:bN Tryz.prog 40 cJ:=bN.of (mode := .clean) tok gC mixed Tryz.func40 (by kernel_rfl) ⟨by kernel_rfl,by kernel_rfl⟩ (fun _=>Nat.le_of_ble_eq_true (by kernel_rfl)) (fun x r h=>gS x.1 x.2.1 x.2.2 r h)
noncomputable def iK:=eB (dR (cR Aq) (dR (aI .i64) (dR (iG bt) (dK (iG aW))))) (fun x:jM×Int×(List aC)×(List aG)=>dQ x.1 x.2.1 x.2.2.1 x.2.2.2) (fun r:Int =>.clean (.int .i64 r))
theorem mf (p0_0:(List ak)) (p0_1:Int) (p0_2:Int) (p0_3:Int) (p1:Int) (p2:(List aC)) (p3:(List aG)):iK none [.agg [.sl false false p0_0.length (ab aq p0_0),.int .i64 p0_1,.int .i64 p0_2,.int .i64 p0_3],.int .i64 p1,.sl false false p2.length (ab bt p2),.sl false false p3.length (ab aW p3)]=(dQ (jM.mk (av.mk p0_0) p0_1 p0_2 p0_3) p1 p2 p3).map fun r:Int=>(.clean (.int .i64 r),none):=aJ _ _ _ ((jM.mk (av.mk p0_0) p0_1 p0_2 p0_3),p1,p2,p3)
noncomputable def fO:Env:=(Am.ext (Am.ext (Am.ext (Am.ext aU 40 false cJ) 71 false cK) 73 false jk) 74 false vz)
theorem sc:bT Tryz.prog fO:=((((bT.none.add gE false).add gF false).add tq false).add KE false)
theorem cG:type_of% (ai @w<|ai @ee<|ai @ef<|ai @mH<|ai @CA<|@fO.eq_1):=⟨@w,@ee,@ef,@mH,@CA,@fO.eq_1⟩
theorem tj (p0:jM) (p1:Int) (p2:(List aC)) (p3:(List aG)) (r:Int) (hh:dQ p0 p1 p2 p3=some r):aS .clean tab fO FU Tryz.f43 none [.agg [.sl false false p0.Uz.ag.length (ab aq p0.Uz.ag),.int .i64 p0.xZ,.int .i64 p0.tT,.int .i64 p0.tS],.int .i64 p1,.sl false false p2.length (ab bt p2),.sl false false p3.length (ab aW p3)]=some (.clean (.int .i64 r),none):=by
 refine aw rfl Tryz.ntmps43 Tryz.results43 ?_
 unfold dQ at hh
 obtain⟨r1,hr1,hh⟩:=ae hh
 try simp only[cG,seval,-Int.reduceToNat,hr1]
 refine sp an hh (fun _ hh =>?_) (fun _ hh =>?_)
 ·cases hh
  try simp only[cG,seval,-Int.reduceToNat,hr1]
 ·obtain⟨x3,hx3,hh⟩:=ae hh
  have ax3:=bF bt hx3
  simp only[bU]at ax3
  obtain⟨r4,hr4,hh⟩:=ae hh
  try simp only[cG,seval,-Int.reduceToNat,hr1,ax3,hr4]
  refine bX (by kernel_rfl) ?_
  try simp only[cG,seval,-Int.reduceToNat,hr1,ax3,hr4]
  refine sp an hh (fun _ hh =>?_) (fun _ hh =>?_)
  ·cases hh
   try simp only[cG,seval,-Int.reduceToNat,hr1,ax3,hr4]
  ·have ax3:=bF bt hx3
   simp only[bU]at ax3
   obtain⟨r6,hr6,hh⟩:=ae hh
   obtain⟨r7,hr7,hh⟩:=ae hh
   try simp only[cG,seval,-Int.reduceToNat,hr1,ax3,hr4,ax3,hr6,hr7]
   refine sp an hh (fun _ hh =>?_) (fun _ hh =>?_)
   ·cases hh
    try simp only[cG,seval,-Int.reduceToNat,hr1,ax3,hr4,ax3,hr6,hr7]
   ·cases hh
    try simp only[cG,seval,-Int.reduceToNat,hr1,ax3,hr4,ax3,hr6,hr7]
theorem sd:bN Tryz.prog 43 iK:=bN.of (mode := .clean) tok sc mixed Tryz.func43 (by kernel_rfl) ⟨by kernel_rfl,by kernel_rfl⟩ (fun _=>Nat.le_of_ble_eq_true (by kernel_rfl)) (fun x r h=>tj x.1 x.2.1 x.2.2.1 x.2.2.2 r h)
noncomputable def dX:=eB (dR (iG aW) (dK (YT 41))) (fun x:(List aG)×Unit=>ck x.1) (fun r:Int =>.clean (.int .i64 r))
theorem fP (p0:(List aG)):dX none [.sl false false p0.length (ab aW p0),.fn 41]=(ck p0).map fun r:Int=>(.clean (.int .i64 r),none):=aJ _ _ _ (p0,())
noncomputable def dc:Env:=(Am.ext aU 41 false mu)
theorem kf:bT Tryz.prog dc:=(bT.none.add yq false)
theorem aZ:type_of% (ai @w<|ai @rQ<|@dc.eq_1):=⟨@w,@rQ,@dc.eq_1⟩
theorem kD (p0:(List aG)) (r:Int) (hh:ck p0=some r):aS .clean tab dc FU Tryz.f68 none [.sl false false p0.length (ab aW p0),.fn 41]=some (.clean (.int .i64 r),none):=by
 refine aw rfl Tryz.ntmps68 Tryz.results68 ?_
 unfold ck at hh
 try simp only[aZ,seval,-Int.reduceToNat]
 obtain⟨o5,ho5,hh⟩:=ae hh
 refine aB (fun s t H e=>match s with|s8a=>t 0=.sl false false p0.length (ab aW p0)∧t 1=.fn 41∧t 7=.int .i64 (p0.length:Int)∧t 8=.int .i64 s8a) (fun o x t H e=>match o with|(.inl _)=>x=.exit 0|(.inr r)=>x=.ret∧gj .clean tab none [.tmp 4] ⟨t,H,e⟩=some (.clean (.int .i64 r),none)) ho5 ?_ ?_ ?_
 ·refine⟨?_,?_,?_,?_⟩
  all_goals first|rfl|(simp only[aZ,seval,-Int.reduceToNat]<;>rfl)
 ·rintro s8a t H e Za c hh
  simp only[cQ]at hh
  try simp only[aZ,seval,-Int.reduceToNat,Za]
  refine sp an hh (fun _ hh =>?_) (fun _ hh =>?_)
  ·obtain⟨x7,hx7,hh⟩:=ae hh
   have ax7:=bF aW hx7
   simp only[bU]at ax7
   obtain⟨r8,hr8,hh⟩:=ae hh
   try simp only[aZ,seval,-Int.reduceToNat,Za,ax7,hr8]
   refine sp an hh (fun _ hh =>?_) (fun _ hh =>?_)
   ·cases hh
    try simp only[aZ,seval,-Int.reduceToNat,Za,ax7,hr8]
    refine ti ⟨rfl,?_⟩
    try simp only[aZ,seval,-Int.reduceToNat,Za,ax7,hr8]
   ·cases hh
    try simp only[aZ,seval,-Int.reduceToNat,Za,ax7,hr8]
    refine iS ?_
    refine⟨?_,?_,?_,?_⟩
    all_goals first|rfl|(simp only[aZ,seval,-Int.reduceToNat,Za,ax7,hr8]<;>rfl)
  ·cases hh
   try simp only[aZ,seval,-Int.reduceToNat,Za]
   refine ki ?_
   exact rfl
 ·rintro x t H e hx
  rcases o5 with _|ra
  ·dsimp only at hx hh
   subst hx
   cases hh
   try simp only[aZ,seval,-Int.reduceToNat]
  ·dsimp only at hx hh
   obtain⟨rfl,hE⟩:=hx
   cases hh
   try simp only[bq,bc,bC,cP,cO]
   exact hE
theorem kh:bN Tryz.prog 68 dX:=bN.of (mode := .clean) tok kf mixed Tryz.func68 (by kernel_rfl) ⟨by kernel_rfl,by kernel_rfl⟩ (fun _=>Nat.le_of_ble_eq_true (by kernel_rfl)) (fun x r h=>kD x.1 r h)
noncomputable def dE:=eB (dR (iG aW) (dK (YT 41))) (fun x:(List aG)×Unit=>aF x.1) (fun r:Bool =>.clean (.bool r))
theorem fi (p0:(List aG)):dE none [.sl false false p0.length (ab aW p0),.fn 41]=(aF p0).map fun r:Bool=>(.clean (.bool r),none):=aJ _ _ _ (p0,())
noncomputable def cB:Env:=(Am.ext aU 68 false dX)
theorem jl:bT Tryz.prog cB:=(bT.none.add kh false)
theorem jz:type_of% (ai @w<|ai @fP<|@cB.eq_1):=⟨@w,@fP,@cB.eq_1⟩
theorem jr (p0:(List aG)) (r:Bool) (hh:aF p0=some r):aS .clean tab cB FU Tryz.f40 none [.sl false false p0.length (ab aW p0),.fn 41]=some (.clean (.bool r),none):=by
 refine aw rfl Tryz.ntmps40 Tryz.results40 ?_
 unfold aF at hh
 obtain⟨r1,hr1,hh⟩:=ae hh
 cases hh
 try simp only[jz,seval,-Int.reduceToNat,hr1]
theorem jm:bN Tryz.prog 40 dE:=bN.of (mode := .clean) tok jl mixed Tryz.func40 (by kernel_rfl) ⟨by kernel_rfl,by kernel_rfl⟩ (fun _=>Nat.le_of_ble_eq_true (by kernel_rfl)) (fun x r h=>jr x.1 r h)
noncomputable def jn:=eB (dR (cR dx) (dR (aI .i64) (dR (aI .i64) (dR (aI .i64) (dR (iG (eI .i64)) (dR (iG bt) (dK (iG aW)))))))) (fun x:av×Int×Int×Int×(List Int)×(List aC)×(List aG)=>cY x.1 x.2.1 x.2.2.1 x.2.2.2.1 x.2.2.2.2.1 x.2.2.2.2.2.1 x.2.2.2.2.2.2) (fun r:(List bn)×Int =>.clean (.tup [.sl false false r.1.length (ab cf r.1),.int .i64 r.2]))
theorem dH (p0_0:(List ak)) (p1:Int) (p2:Int) (p3:Int) (p4:(List Int)) (p5:(List aC)) (p6:(List aG)):jn none [.agg [.sl false false p0_0.length (ab aq p0_0)],.int .i64 p1,.int .i64 p2,.int .i64 p3,.sl false false p4.length (ab (eI .i64) p4),.sl false false p5.length (ab bt p5),.sl false false p6.length (ab aW p6)]=(cY (av.mk p0_0) p1 p2 p3 p4 p5 p6).map fun r:(List bn)×Int=>(.clean (.tup [.sl false false r.1.length (ab cf r.1),.int .i64 r.2]),none):=aJ _ _ _ ((av.mk p0_0),p1,p2,p3,p4,p5,p6)
noncomputable def lO:Env:=(Am.ext (Am.ext (Am.ext (Am.ext aU 39 false fb) 40 false dE) 42 false lG) 43 false iK)
theorem BS:bT Tryz.prog lO:=((((bT.none.add gx false).add jm false).add tr false).add sd false)
theorem bh:type_of% (ai @w<|ai @cU<|ai @fi<|ai @lW<|ai @mf<|@lO.eq_1):=⟨@w,@cU,@fi,@lW,@mf,@lO.eq_1⟩
theorem DH (p0:av) (p1:Int) (p2:Int) (p3:Int) (p4:(List Int)) (p5:(List aC)) (p6:(List aG)) (r:(List bn)×Int) (hh:cY p0 p1 p2 p3 p4 p5 p6=some r):aS .clean tab lO FU Tryz.f13 none [.agg [.sl false false p0.ag.length (ab aq p0.ag)],.int .i64 p1,.int .i64 p2,.int .i64 p3,.sl false false p4.length (ab (eI .i64) p4),.sl false false p5.length (ab bt p5),.sl false false p6.length (ab aW p6)]=some (.clean (.tup [.sl false false r.1.length (ab cf r.1),.int .i64 r.2]),none):=by
 refine aw rfl Tryz.ntmps13 Tryz.results13 ?_
 unfold cY at hh
 obtain⟨r1,hr1,hh⟩:=ae hh
 try simp only[bh,seval,-Int.reduceToNat,hr1]
 obtain⟨o2,ho2,hh⟩:=ae hh
 refine bH 0 (fun s t H e=>match s with|s21j1=>∃v7j1:Nat,t 1=.int .i64 p1∧t 2=.int .i64 p2∧t 3=.int .i64 p3∧t 4=.sl false false p4.length (ab (eI .i64) p4)∧t 5=.sl false false p5.length (ab bt p5)∧t 6=.sl false false p6.length (ab aW p6)∧t 7=.ptr 7 v7j1 0∧t 21=.bool s21j1∧H 7=some ⟨v7j1,24,[.sl false false p0.ag.length (ab aq p0.ag)],false,false,false⟩) (fun s=>s=o2) ?_ ?_
 ·rintro s21j1 t H e ⟨v7j1,Zj1⟩ rfl
  try dsimp only at hh
  try simp only[bh,seval,-Int.reduceToNat,hr1,Zj1]
  refine sp an hh (fun _ hh =>?_) (fun _ hh =>?_)
  ·cases hh
   try simp only[bh,seval,-Int.reduceToNat,hr1,Zj1]
  ·obtain⟨r4,hr4,hh⟩:=ae hh
   try simp only[bh,seval,-Int.reduceToNat,hr1,Zj1,hr4]
   refine sp an hh (fun _ hh =>?_) (fun _ hh =>?_)
   ·cases hh
    try simp only[bh,seval,-Int.reduceToNat,hr1,Zj1,hr4]
   ·obtain⟨r6,hr6,hh⟩:=ae hh
    try simp only[bh,seval,-Int.reduceToNat,hr1,Zj1,hr4,hr6]
    refine sp an hh (fun _ hh =>?_) (fun _ hh =>?_)
    ·cases hh
     try simp only[bh,seval,-Int.reduceToNat,hr1,Zj1,hr4,hr6]
    ·try simp only[bh,seval,-Int.reduceToNat,hr1,Zj1,hr4,hr6]
     obtain⟨o14,ho14,hh⟩:=ae hh
     refine aB (fun s t H e=>match s with|(s49b,l17b)=>∃v16b:Nat,∃v17b:Nat,t 5=.sl false false p5.length (ab bt p5)∧t 6=.sl false false p6.length (ab aW p6)∧t 16=.ptr 16 v16b 0∧t 17=.buf 17 v17b 2 0 (l17b).length∧t 47=.sl false false p4.length (ab (eI .i64) p4)∧t 48=.int .i64 (p4.length:Int)∧t 49=.int .i64 s49b∧H 16=some ⟨v16b,92,[.sl false false p0.ag.length (ab aq p0.ag),.int .i64 p1,.int .i64 p2,.int .i64 p3],false,false,false⟩∧H 17=some ⟨v17b,74,ab cf l17b,false,true,false⟩) (fun o x t H e=>match o with|l17bx=>x=.exit 1∧∃v17bx:Nat,t 17=.buf 17 v17bx 2 0 (l17bx).length∧H 17=some ⟨v17bx,74,ab cf l17bx,false,true,false⟩) ho14 ?_ ?_ ?_
     ·refine⟨e+1+1,e+1+1+1,?_,?_,?_,?_,?_,?_,?_,?_,?_⟩
      all_goals first|rfl|(simp only[bh,seval,-Int.reduceToNat,hr1,Zj1,hr4,hr6]<;>rfl)
     ·rintro⟨s49b,l17b⟩ t H e ⟨v16b,v17b,Zb⟩ c hh
      simp only[dY]at hh
      try simp only[bh,seval,-Int.reduceToNat,hr1,hr4,hr6,Zb]
      refine sp an hh (fun _ hh =>?_) (fun _ hh =>?_)
      ·obtain⟨x16,hx16,hh⟩:=ae hh
       have ax16:=bF (eI .i64) hx16
       simp only[bU]at ax16
       obtain⟨r17,hr17,hh⟩:=ae hh
       try simp only[bh,seval,-Int.reduceToNat,hr1,hr4,hr6,Zb,ax16,hr17]
       refine sp an hh (fun _ hh =>?_) (fun _ hh =>?_)
       ·obtain⟨x19,hx19,hh⟩:=ae hh
        obtain⟨q20a,q20b,q20c,q20d⟩:=fD cf hx19
        simp only[bU]at q20b
        cases hh
        try simp only[bh,seval,-Int.reduceToNat,hr1,hr4,hr6,Zb,ax16,hr17,q20a,q20b,q20c,q20d]
        refine iS ?_
        refine⟨v16b,e+1+1+1+1,?_,?_,?_,?_,?_,?_,?_,?_,?_⟩
        all_goals first|rfl|(simp only[bh,seval,-Int.reduceToNat,hr1,hr4,hr6,Zb,ax16,hr17,q20a,q20b,q20c,q20d]<;>rfl)
       ·cases hh
        try simp only[bh,seval,-Int.reduceToNat,hr1,hr4,hr6,Zb,ax16,hr17]
        refine iS ?_
        refine⟨v16b,v17b,?_,?_,?_,?_,?_,?_,?_,?_,?_⟩
        all_goals first|rfl|(simp only[bh,seval,-Int.reduceToNat,hr1,hr4,hr6,Zb,ax16,hr17]<;>rfl)
      ·cases hh
       try simp only[bh,seval,-Int.reduceToNat,hr1,hr4,hr6,Zb]
       refine ki ?_
       refine⟨rfl,⟨v17b,?_,?_⟩⟩
       all_goals first|rfl|(simp only[bh,seval,-Int.reduceToNat,hr1,hr4,hr6,Zb]<;>rfl)
     ·rintro x t H e hx
      obtain⟨l17bx,rfl⟩:∃z,z=o14:=⟨_,rfl⟩
      dsimp only at hx hh
      obtain⟨rfl,⟨v17bx,Zbx⟩⟩:=hx
      cases hh
      try simp only[bh,seval,-Int.reduceToNat,hr1,hr4,hr6,Zbx]
 ·clear hh
  have hh:=ho2
  try simp only[bh,seval,-Int.reduceToNat,hr1]
  refine sp aR hh (fun _ hh =>?_) (fun _ hh =>?_)
  ·cases hh
   try simp only[bh,seval,-Int.reduceToNat,hr1]
   rw[al]
   refine⟨_,rfl,?_⟩
   refine⟨0,?_,?_,?_,?_,?_,?_,?_,?_,?_⟩
   all_goals first|rfl|(simp only[bh,seval,-Int.reduceToNat,hr1]<;>rfl)
  ·try simp only[bh,seval,-Int.reduceToNat,hr1]
   refine sp aR hh (fun _ hh =>?_) (fun _ hh =>?_)
   ·cases hh
    try simp only[bh,seval,-Int.reduceToNat,hr1]
    rw[al]
    refine⟨_,rfl,?_⟩
    refine⟨0,?_,?_,?_,?_,?_,?_,?_,?_,?_⟩
    all_goals first|rfl|(simp only[bh,seval,-Int.reduceToNat,hr1]<;>rfl)
   ·cases hh
    try simp only[bh,seval,-Int.reduceToNat,hr1]
    rw[al]
    refine⟨_,rfl,?_⟩
    refine⟨0,?_,?_,?_,?_,?_,?_,?_,?_,?_⟩
    all_goals first|rfl|(simp only[bh,seval,-Int.reduceToNat,hr1]<;>rfl)
theorem n5:bN Tryz.prog 13 jn:=bN.of (mode := .clean) tok BS mixed Tryz.func13 (by kernel_rfl) ⟨by kernel_rfl,by kernel_rfl⟩ (fun _=>Nat.le_of_ble_eq_true (by kernel_rfl)) (fun x r h=>DH x.1 x.2.1 x.2.2.1 x.2.2.2.1 x.2.2.2.2.1 x.2.2.2.2.2.1 x.2.2.2.2.2.2 r h)
noncomputable def pY:=eB (dR (iG cf) (dK (iG cf))) (fun x:(List bn)×(List bn)=>ib x.1 x.2) (fun r:Bool =>.clean (.bool r))
theorem jP (p0:(List bn)) (p1:(List bn)):pY none [.sl false false p0.length (ab cf p0),.sl false false p1.length (ab cf p1)]=(ib p0 p1).map fun r:Bool=>(.clean (.bool r),none):=aJ _ _ _ (p0,p1)
theorem ME (p0:(List bn)) (p1:(List bn)) (r:Bool) (hh:ib p0 p1=some r):aS .clean tab aU FU Tryz.f17 none [.sl false false p0.length (ab cf p0),.sl false false p1.length (ab cf p1)]=some (.clean (.bool r),none):=by
 refine aw rfl Tryz.ntmps17 Tryz.results17 ?_
 unfold ib at hh
 try simp only[w,seval,-Int.reduceToNat]
 refine sp an hh (fun _ hh =>?_) (fun _ hh =>?_)
 ·cases hh
  try simp only[w,seval,-Int.reduceToNat]
 ·try simp only[w,seval,-Int.reduceToNat]
  obtain⟨o6,ho6,hh⟩:=ae hh
  refine aB (fun s t H e=>match s with|s5a=>t 0=.sl false false p0.length (ab cf p0)∧t 1=.sl false false p1.length (ab cf p1)∧t 5=.int .i64 s5a) (fun o x t H e=>match o with|(.inl _)=>x=.exit 0|(.inr r)=>x=.ret∧gj .clean tab none [.tmp 4] ⟨t,H,e⟩=some (.clean (.bool r),none)) ho6 ?_ ?_ ?_
  ·refine⟨?_,?_,?_⟩
   all_goals first|rfl|(simp only[w,seval,-Int.reduceToNat]<;>rfl)
  ·rintro s5a t H e Za c hh
   simp only[mn]at hh
   try simp only[w,seval,-Int.reduceToNat,Za]
   refine sp an hh (fun _ hh =>?_) (fun _ hh =>?_)
   ·obtain⟨x8,hx8,hh⟩:=ae hh
    have ax8:=bF cf hx8
    simp only[bU]at ax8
    obtain⟨x9,hx9,hh⟩:=ae hh
    have ax9:=bF cf hx9
    simp only[bU]at ax9
    try simp only[w,seval,-Int.reduceToNat,Za,ax8,ax9]
    refine bX (by kernel_rfl) ?_
    try simp only[w,seval,-Int.reduceToNat,Za,ax8,ax9]
    refine sp an hh (fun _ hh =>?_) (fun _ hh =>?_)
    ·cases hh
     try simp only[w,seval,-Int.reduceToNat,Za,ax8,ax9]
     refine ti ⟨rfl,?_⟩
     try simp only[w,seval,-Int.reduceToNat,Za,ax8,ax9]
    ·cases hh
     try simp only[w,seval,-Int.reduceToNat,Za,ax8,ax9]
     refine iS ?_
     refine⟨?_,?_,?_⟩
     all_goals first|rfl|(simp only[w,seval,-Int.reduceToNat,Za,ax8,ax9]<;>rfl)
   ·cases hh
    try simp only[w,seval,-Int.reduceToNat,Za]
    refine ki ?_
    exact rfl
  ·rintro x t H e hx
   rcases o6 with _|ra
   ·dsimp only at hx hh
    subst hx
    cases hh
    try simp only[w,seval,-Int.reduceToNat]
   ·dsimp only at hx hh
    obtain⟨rfl,hE⟩:=hx
    cases hh
    try simp only[bq,bc,bC,cP,cO]
    exact hE
theorem zh:bN Tryz.prog 17 pY:=bN.of (mode := .clean) tok bT.none mixed Tryz.func17 (by kernel_rfl) ⟨by kernel_rfl,by kernel_rfl⟩ (fun _=>Nat.le_of_ble_eq_true (by kernel_rfl)) (fun x r h=>ME x.1 x.2 r h)
noncomputable def vC:=eB (dR (cR dx) (dR (iG (eI .i64)) (dR (aI .i64) (dR (iG aW) (dK (iG cf)))))) (fun x:av×(List Int)×Int×(List aG)×(List bn)=>jq x.1 x.2.1 x.2.2.1 x.2.2.2.1 x.2.2.2.2) (fun r:Bool =>.clean (.bool r))
theorem ly (p0_0:(List ak)) (p1:(List Int)) (p2:Int) (p3:(List aG)) (p4:(List bn)):vC none [.agg [.sl false false p0_0.length (ab aq p0_0)],.sl false false p1.length (ab (eI .i64) p1),.int .i64 p2,.sl false false p3.length (ab aW p3),.sl false false p4.length (ab cf p4)]=(jq (av.mk p0_0) p1 p2 p3 p4).map fun r:Bool=>(.clean (.bool r),none):=aJ _ _ _ ((av.mk p0_0),p1,p2,p3,p4)
noncomputable def qF:Env:=(Am.ext (Am.ext aU 13 false jn) 17 false pY)
theorem Jq:bT Tryz.prog qF:=((bT.none.add n5 false).add zh false)
theorem v7:type_of% (ai @w<|ai @dH<|ai @jP<|@qF.eq_1):=⟨@w,@dH,@jP,@qF.eq_1⟩
theorem Mx (p0:av) (p1:(List Int)) (p2:Int) (p3:(List aG)) (p4:(List bn)) (r:Bool) (hh:jq p0 p1 p2 p3 p4=some r):aS .clean tab qF FU Tryz.f38 none [.agg [.sl false false p0.ag.length (ab aq p0.ag)],.sl false false p1.length (ab (eI .i64) p1),.int .i64 p2,.sl false false p3.length (ab aW p3),.sl false false p4.length (ab cf p4)]=some (.clean (.bool r),none):=by
 refine aw rfl Tryz.ntmps38 Tryz.results38 ?_
 unfold jq at hh
 have i1:=dH p0.ag 4 60 24 p1 ([(aC.mk 1 ([4,3,1]) (ByteArray.mk #[98]) p2 8)]) p3
 simp only[aM,bU,List.length_cons,List.length_nil,Nat.zero_add,Nat.reduceAdd,List.length_set]at i1
 obtain⟨r2,hr2,hh⟩:=ae hh
 try simp only[v7,seval,-Int.reduceToNat,i1,hr2]
 refine sp bk hh (fun _ hh =>?_) (fun _ hh =>?_)
 ·obtain⟨r4,hr4,hh⟩:=ae hh
  cases hh
  try simp only[v7,seval,-Int.reduceToNat,i1,hr2,hr4]
 ·cases hh
  try simp only[v7,seval,-Int.reduceToNat,i1,hr2]
theorem KH:bN Tryz.prog 38 vC:=bN.of (mode := .clean) tok Jq mixed Tryz.func38 (by kernel_rfl) ⟨by kernel_rfl,by kernel_rfl⟩ (fun _=>Nat.le_of_ble_eq_true (by kernel_rfl)) (fun x r h=>Mx x.1 x.2.1 x.2.2.1 x.2.2.2.1 x.2.2.2.2 r h)
noncomputable def sA:=eB (dK (iG (eI .i64))) (fun x:(List Int)=>uD x) (fun r:ByteArray =>.clean (.str r))
theorem zB (p0:(List Int)):sA none [.sl false false p0.length (ab (eI .i64) p0)]=(uD p0).map fun r:ByteArray=>(.clean (.str r),none):=aJ _ _ _ p0
theorem HD:bN Tryz.prog 53 sA:=UI
noncomputable def oz:=eB (dK (iG (eI .i64))) (fun x:(List Int)=>kc x) (fun r:ByteArray =>.clean (.str r))
theorem mg (p0:(List Int)):oz none [.sl false false p0.length (ab (eI .i64) p0)]=(kc p0).map fun r:ByteArray=>(.clean (.str r),none):=aJ _ _ _ (p0)
noncomputable def oO:Env:=(Am.ext aU 53 false sA)
theorem G0:bT Tryz.prog oO:=(bT.none.add HD false)
theorem LC:type_of% (ai @w<|ai @zB<|@oO.eq_1):=⟨@w,@zB,@oO.eq_1⟩
theorem Kk (p0:(List Int)) (r:ByteArray) (hh:kc p0=some r):aS .clean tab oO FU Tryz.f21 none [.sl false false p0.length (ab (eI .i64) p0)]=some (.clean (.str r),none):=by
 refine aw rfl Tryz.ntmps21 Tryz.results21 ?_
 unfold kc at hh
 obtain⟨r1,hr1,hh⟩:=ae hh
 cases hh
 try simp only[LC,seval,-Int.reduceToNat,hr1]
theorem w9:bN Tryz.prog 21 oz:=bN.of (mode := .clean) tok G0 mixed Tryz.func21 (by kernel_rfl) ⟨by kernel_rfl,by kernel_rfl⟩ (fun _=>Nat.le_of_ble_eq_true (by kernel_rfl)) (fun x r h=>Kk x r h)
theorem DO (p0 r:(List ak)) (hh:ka p0=some r):aS .tight tab aU FU Tryz.f92 none [.sl false false p0.length (ab aq p0)]=some (.clean (.sl false true r.length (ab aq r)),none):=by
 unfold ka at hh
 split at hh
 ·cases hh
  refine aw rfl Tryz.ntmps92 Tryz.results92 ?_
  simp only[w,seval,-Int.reduceToNat,Int.toNat_natCast,Int.natCast_nonneg]
 ·cases hh
noncomputable def pk:=eB (dK (iG aq)) (fun x:(List ak)=>ka x) (fun r:(List ak) =>.clean (.sl false true r.length (ab aq r)))
theorem vk (p0:(List ak)):pk none [.sl false false p0.length (ab aq p0)]=(ka p0).map fun r:(List ak)=>(.clean (.sl false true r.length (ab aq r)),none):=aJ _ _ _ p0
theorem Ct:bN Tryz.prog 92 pk:=bN.of (mode := .tight) tok bT.none mixed Tryz.func92 (by kernel_rfl) ⟨by kernel_rfl,by kernel_rfl⟩ (fun _=>Nat.le_of_ble_eq_true (by kernel_rfl)) (fun x r h=>DO x r h)
noncomputable def sy:=eB (dR (cR dx) (dK (cR aq))) (fun x:av×ak=>lF x.1 x.2) (fun r:av×Int×Int =>.clean (.tup [.agg [.sl false false r.1.ag.length (ab aq r.1.ag)],.int .i64 r.2.1,.int .i64 r.2.2]))
theorem zA (p0_0:(List ak)) (p1_0:ByteArray) (p1_1:Int) (p1_2:Int) (p1_3:Int) (p1_4:Int):sy none [.agg [.sl false false p0_0.length (ab aq p0_0)],.agg [.str p1_0,.int .i64 p1_1,.int .i64 p1_2,.int .i64 p1_3,.int .i64 p1_4]]=(lF (av.mk p0_0) (ak.mk p1_0 p1_1 p1_2 p1_3 p1_4)).map fun r:av×Int×Int=>(.clean (.tup [.agg [.sl false false r.1.ag.length (ab aq r.1.ag)],.int .i64 r.2.1,.int .i64 r.2.2]),none):=aJ _ _ _ ((av.mk p0_0),(ak.mk p1_0 p1_1 p1_2 p1_3 p1_4))
noncomputable def oQ:Env:=(Am.ext (Am.ext aU 63 false kp) 92 false pk)
theorem G2:bT Tryz.prog oQ:=((bT.none.add rO false).add Ct false)
theorem zR:type_of% (ai @w<|ai @kM<|ai @vk<|@oQ.eq_1):=⟨@w,@kM,@vk,@oQ.eq_1⟩
theorem Kn (p0:av) (p1:ak) (r:av×Int×Int) (hh:lF p0 p1=some r):aS .clean tab oQ FU Tryz.f52 none [.agg [.sl false false p0.ag.length (ab aq p0.ag)],.agg [.str p1.bE,.int .i64 p1.ay,.int .i64 p1.aA,.int .i64 p1.aY,.int .i64 p1.aQ]]=some (.clean (.tup [.agg [.sl false false r.1.ag.length (ab aq r.1.ag)],.int .i64 r.2.1,.int .i64 r.2.2]),none):=by
 refine aw rfl Tryz.ntmps52 Tryz.results52 ?_
 unfold lF at hh
 obtain⟨r1,hr1,hh⟩:=ae hh
 obtain⟨r2,hr2,hh⟩:=ae hh
 obtain⟨x3,hx3,hh⟩:=ae hh
 obtain⟨q4a,q4b,q4c,q4d⟩:=fD aq hx3
 simp only[bU]at q4b
 try simp only[zR,seval,-Int.reduceToNat,hr1,hr2,q4a,q4b,q4c,q4d]
 refine bX (by kernel_rfl) ?_
 cases hh
 try simp only[zR,seval,-Int.reduceToNat,hr1,hr2,q4a,q4b,q4c,q4d]
theorem HC:bN Tryz.prog 52 sy:=bN.of (mode := .clean) tok G2 mixed Tryz.func52 (by kernel_rfl) ⟨by kernel_rfl,by kernel_rfl⟩ (fun _=>Nat.le_of_ble_eq_true (by kernel_rfl)) (fun x r h=>Kn x.1 x.2 r h)
noncomputable def qf:=eB (dR (cR dx) (dR Ug (dR (aI .i64) (dK (aI .i64))))) (fun x:av×ByteArray×Int×Int=>jT x.1 x.2.1 x.2.2.1 x.2.2.2) (fun r:av×Int×Int =>.clean (.tup [.agg [.sl false false r.1.ag.length (ab aq r.1.ag)],.int .i64 r.2.1,.int .i64 r.2.2]))
theorem xi (p0_0:(List ak)) (p1:ByteArray) (p2:Int) (p3:Int):qf none [.agg [.sl false false p0_0.length (ab aq p0_0)],.str p1,.int .i64 p2,.int .i64 p3]=(jT (av.mk p0_0) p1 p2 p3).map fun r:av×Int×Int=>(.clean (.tup [.agg [.sl false false r.1.ag.length (ab aq r.1.ag)],.int .i64 r.2.1,.int .i64 r.2.2]),none):=aJ _ _ _ ((av.mk p0_0),p1,p2,p3)
noncomputable def mZ:Env:=(Am.ext (Am.ext (Am.ext aU 39 false fb) 51 false mL) 52 false sy)
theorem DC:bT Tryz.prog mZ:=(((bT.none.add gx false).add ve false).add HC false)
theorem ep:type_of% (ai @w<|ai @cU<|ai @ns<|ai @zA<|@mZ.eq_1):=⟨@w,@cU,@ns,@zA,@mZ.eq_1⟩
theorem Hh (p0:av) (p1:ByteArray) (p2:Int) (p3:Int) (r:av×Int×Int) (hh:jT p0 p1 p2 p3=some r):aS .clean tab mZ FU Tryz.f20 none [.agg [.sl false false p0.ag.length (ab aq p0.ag)],.str p1,.int .i64 p2,.int .i64 p3]=some (.clean (.tup [.agg [.sl false false r.1.ag.length (ab aq r.1.ag)],.int .i64 r.2.1,.int .i64 r.2.2]),none):=by
 refine aw rfl Tryz.ntmps20 Tryz.results20 ?_
 unfold jT at hh
 obtain⟨r1,hr1,hh⟩:=ae hh
 try simp only[ep,seval,-Int.reduceToNat,hr1]
 obtain⟨o2,ho2,hh⟩:=ae hh
 refine bH 0 (fun s t H e=>match s with|s16j1=>∃v4j1:Nat,∃v8j1:Nat,∃v11j1:Nat,t 4=.ptr 4 v4j1 0∧t 8=.ptr 8 v8j1 0∧t 11=.ptr 11 v11j1 0∧t 16=.bool s16j1∧H 4=some ⟨v4j1,24,[.sl false false p0.ag.length (ab aq p0.ag)],false,false,false⟩∧H 8=some ⟨v8j1,24,[.sl true true 0 []],false,false,false⟩∧H 11=some ⟨v11j1,87,[.str p1,.int .i64 p2,.int .i64 p3,.int .i64 (-1),.int .i64 (-1)],false,false,false⟩) (fun s=>s=o2) ?_ ?_
 ·rintro s16j1 t H e ⟨v4j1,v8j1,v11j1,Zj1⟩ rfl
  try dsimp only at hh
  try simp only[ep,seval,-Int.reduceToNat,hr1,Zj1]
  refine sp an hh (fun _ hh =>?_) (fun _ hh =>?_)
  ·cases hh
   try simp only[ep,seval,-Int.reduceToNat,hr1,Zj1]
  ·try simp only[ep,seval,-Int.reduceToNat,hr1,Zj1]
   refine sp an hh (fun _ hh =>?_) (fun _ hh =>?_)
   ·cases hh
    try simp only[ep,seval,-Int.reduceToNat,hr1,Zj1]
   ·obtain⟨r5,hr5,hh⟩:=ae hh
    cases hh
    try simp only[ep,seval,-Int.reduceToNat,hr1,Zj1,hr5]
 ·clear hh
  have hh:=ho2
  try simp only[ep,seval,-Int.reduceToNat,hr1]
  refine sp aR hh (fun _ hh =>?_) (fun _ hh =>?_)
  ·cases hh
   try simp only[ep,seval,-Int.reduceToNat,hr1]
   rw[al]
   refine⟨_,rfl,?_⟩
   refine⟨0,0,1,?_,?_,?_,?_,?_,?_,?_⟩
   all_goals first|rfl|(simp only[ep,seval,-Int.reduceToNat,hr1]<;>rfl)
  ·obtain⟨r7,hr7,hh⟩:=ae hh
   cases hh
   try simp only[ep,seval,-Int.reduceToNat,hr1,hr7]
   rw[al]
   refine⟨_,rfl,?_⟩
   refine⟨0,0,1,?_,?_,?_,?_,?_,?_,?_⟩
   all_goals first|rfl|(simp only[ep,seval,-Int.reduceToNat,hr1,hr7]<;>rfl)
theorem D0:bN Tryz.prog 20 qf:=bN.of (mode := .clean) tok DC mixed Tryz.func20 (by kernel_rfl) ⟨by kernel_rfl,by kernel_rfl⟩ (fun _=>Nat.le_of_ble_eq_true (by kernel_rfl)) (fun x r h=>Hh x.1 x.2.1 x.2.2.1 x.2.2.2 r h)
noncomputable def mJ:=eB (dR (iG (eI .i64)) (dK (aI .i64))) (fun x:(List Int)×Int=>iW x.1 x.2) (fun r:Bool =>.clean (.bool r))
theorem nq (p0:(List Int)) (p1:Int):mJ none [.sl false false p0.length (ab (eI .i64) p0),.int .i64 p1]=(iW p0 p1).map fun r:Bool=>(.clean (.bool r),none):=aJ _ _ _ (p0,p1)
theorem Hb (p0:(List Int)) (p1:Int) (r:Bool) (hh:iW p0 p1=some r):aS .clean tab aU FU Tryz.f23 none [.sl false false p0.length (ab (eI .i64) p0),.int .i64 p1]=some (.clean (.bool r),none):=by
 refine aw rfl Tryz.ntmps23 Tryz.results23 ?_
 unfold iW at hh
 try simp only[w,seval,-Int.reduceToNat]
 obtain⟨o1,ho1,hh⟩:=ae hh
 refine bH 0 (fun s t H e=>match s with|s19j1=>t 0=.sl false false p0.length (ab (eI .i64) p0)∧t 1=.int .i64 p1∧t 19=.bool s19j1) (fun s=>s=o1) ?_ ?_
 ·rintro s19j1 t H e Zj1 rfl
  try dsimp only at hh
  try simp only[w,seval,-Int.reduceToNat,Zj1]
  refine sp an hh (fun _ hh =>?_) (fun _ hh =>?_)
  ·cases hh
   try simp only[w,seval,-Int.reduceToNat,Zj1]
  ·try simp only[w,seval,-Int.reduceToNat,Zj1]
   obtain⟨o7,ho7,hh⟩:=ae hh
   refine aB (fun s t H e=>match s with|s22b=>t 1=.int .i64 p1∧t 20=.sl false false p0.length (ab (eI .i64) p0)∧t 21=.int .i64 (p0.length:Int)∧t 22=.int .i64 s22b) (fun o x t H e=>match o with|(.inl _)=>x=.exit 0|(.inr r)=>x=.ret∧gj .clean tab none [.tmp 4] ⟨t,H,e⟩=some (.clean (.bool r),none)) ho7 ?_ ?_ ?_
   ·refine⟨?_,?_,?_,?_⟩
    all_goals first|rfl|(simp only[w,seval,-Int.reduceToNat,Zj1]<;>rfl)
   ·rintro s22b t H e Zb c hh
    simp only[jx]at hh
    try simp only[w,seval,-Int.reduceToNat,Zb]
    refine sp an hh (fun _ hh =>?_) (fun _ hh =>?_)
    ·obtain⟨x9,hx9,hh⟩:=ae hh
     have ax9:=bF (eI .i64) hx9
     simp only[bU]at ax9
     try simp only[w,seval,-Int.reduceToNat,Zb,ax9]
     refine sp aR hh (fun _ hh =>?_) (fun _ hh =>?_)
     ·cases hh
      try simp only[w,seval,-Int.reduceToNat,Zb,ax9]
      refine ti ⟨rfl,?_⟩
      try simp only[w,seval,-Int.reduceToNat,Zb,ax9]
     ·try simp only[w,seval,-Int.reduceToNat,Zb,ax9]
      refine sp an hh (fun _ hh =>?_) (fun _ hh =>?_)
      ·cases hh
       try simp only[w,seval,-Int.reduceToNat,Zb,ax9]
       refine ti ⟨rfl,?_⟩
       try simp only[w,seval,-Int.reduceToNat,Zb,ax9]
      ·cases hh
       try simp only[w,seval,-Int.reduceToNat,Zb,ax9]
       refine iS ?_
       refine⟨?_,?_,?_,?_⟩
       all_goals first|rfl|(simp only[w,seval,-Int.reduceToNat,Zb,ax9]<;>rfl)
    ·cases hh
     try simp only[w,seval,-Int.reduceToNat,Zb]
     refine ki ?_
     exact rfl
   ·rintro x t H e hx
    rcases o7 with _|rb
    ·dsimp only at hx hh
     subst hx
     cases hh
     try simp only[w,seval,-Int.reduceToNat]
    ·dsimp only at hx hh
     obtain⟨rfl,hE⟩:=hx
     cases hh
     try simp only[bq,bc,bC,cP,cO]
     exact hE
 ·clear hh
  have hh:=ho1
  try simp only[w,seval,-Int.reduceToNat]
  refine sp aR hh (fun _ hh =>?_) (fun _ hh =>?_)
  ·cases hh
   try simp only[w,seval,-Int.reduceToNat]
   rw[al]
   refine⟨_,rfl,?_⟩
   refine⟨?_,?_,?_⟩
   all_goals first|rfl|(simp only[w,seval,-Int.reduceToNat]<;>rfl)
  ·try simp only[w,seval,-Int.reduceToNat]
   refine sp aR hh (fun _ hh =>?_) (fun _ hh =>?_)
   ·cases hh
    try simp only[w,seval,-Int.reduceToNat]
    rw[al]
    refine⟨_,rfl,?_⟩
    refine⟨?_,?_,?_⟩
    all_goals first|rfl|(simp only[w,seval,-Int.reduceToNat]<;>rfl)
   ·cases hh
    try simp only[w,seval,-Int.reduceToNat]
    rw[al]
    refine⟨_,rfl,?_⟩
    refine⟨?_,?_,?_⟩
    all_goals first|rfl|(simp only[w,seval,-Int.reduceToNat]<;>rfl)
theorem vc:bN Tryz.prog 23 mJ:=bN.of (mode := .clean) tok bT.none mixed Tryz.func23 (by kernel_rfl) ⟨by kernel_rfl,by kernel_rfl⟩ (fun _=>Nat.le_of_ble_eq_true (by kernel_rfl)) (fun x r h=>Hb x.1 x.2 r h)
noncomputable def su:=eB (dR (iG (rG (eI .i64))) (dR (aI .i64) (dK (aI .i64)))) (fun x:(List (List Int))×Int×Int=>lC x.1 x.2.1 x.2.2) (fun r:(List Int)×Int =>.clean (.tup [.sl false false r.1.length (ab (eI .i64) r.1),.int .i64 r.2]))
theorem zw (p0:(List (List Int))) (p1:Int) (p2:Int):su none [.sl false false p0.length (ab (rG (eI .i64)) p0),.int .i64 p1,.int .i64 p2]=(lC p0 p1 p2).map fun r:(List Int)×Int=>(.clean (.tup [.sl false false r.1.length (ab (eI .i64) r.1),.int .i64 r.2]),none):=aJ _ _ _ (p0,p1,p2)
noncomputable def oN:Env:=(Am.ext aU 23 false mJ)
theorem GZ:bT Tryz.prog oN:=(bT.none.add vc false)
theorem aN:type_of% (ai @w<|ai @nq<|@oN.eq_1):=⟨@w,@nq,@oN.eq_1⟩
theorem Kj (p0:(List (List Int))) (p1:Int) (p2:Int) (r:(List Int)×Int) (hh:lC p0 p1 p2=some r):aS .clean tab oN FU Tryz.f82 none [.sl false false p0.length (ab (rG (eI .i64)) p0),.int .i64 p1,.int .i64 p2]=some (.clean (.tup [.sl false false r.1.length (ab (eI .i64) r.1),.int .i64 r.2]),none):=by
 refine aw rfl Tryz.ntmps82 Tryz.results82 ?_
 unfold lC at hh
 try simp only[aN,seval,-Int.reduceToNat]
 obtain⟨o1,ho1,hh⟩:=ae hh
 refine bH 0 (fun s t H e=>match s with|s32j1=>t 0=.sl false false p0.length (ab (rG (eI .i64)) p0)∧t 1=.int .i64 p1∧t 2=.int .i64 p2∧t 32=.bool s32j1) (fun s=>s=o1) ?_ ?_
 ·rintro s32j1 t H e Zj1 rfl
  try dsimp only at hh
  try simp only[aN,seval,-Int.reduceToNat,Zj1]
  refine sp an hh (fun _ hh =>?_) (fun _ hh =>?_)
  ·cases hh
   try simp only[aN,seval,-Int.reduceToNat,Zj1]
  ·obtain⟨x3,hx3,hh⟩:=ae hh
   obtain⟨q4a,q4b,q4c,q4d,q4e⟩:=mk_one (eI .i64) hx3
   simp only[bU]at q4d
   try simp only[aN,seval,-Int.reduceToNat,Zj1,q4a,q4b,q4c,q4d,q4e]
   obtain⟨o24,ho24,hh⟩:=ae hh
   refine aB (fun s t H e=>match s with|(s37b,l8b)=>∃v8b:Nat,t 1=.int .i64 p1∧t 2=.int .i64 p2∧t 8=.buf 8 v8b 1 0 (l8b).length∧t 35=.sl false false p0.length (ab (rG (eI .i64)) p0)∧t 36=.int .i64 (p0.length:Int)∧t 37=.int .i64 s37b∧H 8=some ⟨v8b,3,ab (eI .i64) l8b,false,true,false⟩) (fun o x t H e=>match o with|(.inl l8bx)=>x=.exit 0∧∃v8bx:Nat,t 8=.buf 8 v8bx 1 0 (l8bx).length∧H 8=some ⟨v8bx,3,ab (eI .i64) l8bx,false,true,false⟩|(.inr r)=>x=.ret∧gj .clean tab none [.tmp 6,.tmp 7] ⟨t,H,e⟩=some (.clean (.tup [.sl false false r.1.length (ab (eI .i64) r.1),.int .i64 r.2]),none)) ho24 ?_ ?_ ?_
   ·refine⟨e,?_,?_,?_,?_,?_,?_,?_⟩
    all_goals first|rfl|(simp only[aN,seval,-Int.reduceToNat,Zj1,q4a,q4b,q4c,q4d,q4e]<;>rfl)
   ·rintro⟨s37b,l8b⟩ t H e ⟨v8b,Zb⟩ c hh
    simp only[nB]at hh
    try simp only[aN,seval,-Int.reduceToNat,q4a,q4b,q4c,q4d,q4e,Zb]
    refine sp an hh (fun _ hh =>?_) (fun _ hh =>?_)
    ·obtain⟨x26,hx26,hh⟩:=ae hh
     have ax26:=bF (rG (eI .i64)) hx26
     simp only[bU]at ax26
     try simp only[aN,seval,-Int.reduceToNat,q4a,q4b,q4c,q4d,q4e,Zb,ax26]
     obtain⟨o27,ho27,hh⟩:=ae hh
     refine bH 0 (fun s t H e=>match s with|s50j5=>∃v8j5:Nat,t 1=.int .i64 p1∧t 2=.int .i64 p2∧t 8=.buf 8 v8j5 1 0 (l8b).length∧t 10=.sl false false x26.length (ab (eI .i64) x26)∧t 35=.sl false false p0.length (ab (rG (eI .i64)) p0)∧t 36=.int .i64 (p0.length:Int)∧t 37=.int .i64 s37b∧t 50=.bool s50j5∧H 8=some ⟨v8j5,3,ab (eI .i64) l8b,false,true,false⟩) (fun s=>s=o27) ?_ ?_
     ·rintro s50j5 t H e ⟨v8j5,Zj5⟩ rfl
      try dsimp only at hh
      try simp only[aN,seval,-Int.reduceToNat,q4a,q4b,q4c,q4d,q4e,ax26,Zj5]
      refine sp an hh (fun _ hh =>?_) (fun _ hh =>?_)
      ·cases hh
       try simp only[aN,seval,-Int.reduceToNat,q4a,q4b,q4c,q4d,q4e,ax26,Zj5]
       refine ti ⟨rfl,?_⟩
       try simp only[aN,seval,-Int.reduceToNat,q4a,q4b,q4c,q4d,q4e,ax26,Zj5]
      ·try simp only[aN,seval,-Int.reduceToNat,q4a,q4b,q4c,q4d,q4e,ax26,Zj5]
       obtain⟨o35,ho35,hh⟩:=ae hh
       refine aB (fun s t H e=>match s with|(s53f,l8f)=>∃v8f:Nat,t 1=.int .i64 p1∧t 2=.int .i64 p2∧t 8=.buf 8 v8f 1 0 (l8f).length∧t 35=.sl false false p0.length (ab (rG (eI .i64)) p0)∧t 36=.int .i64 (p0.length:Int)∧t 37=.int .i64 s37b∧t 51=.sl false false x26.length (ab (eI .i64) x26)∧t 52=.int .i64 (x26.length:Int)∧t 53=.int .i64 s53f∧H 8=some ⟨v8f,3,ab (eI .i64) l8f,false,true,false⟩) (fun o x t H e=>match o with|l8fx=>x=.exit 2∧∃v8fx:Nat,t 1=.int .i64 p1∧t 2=.int .i64 p2∧t 8=.buf 8 v8fx 1 0 (l8fx).length∧t 35=.sl false false p0.length (ab (rG (eI .i64)) p0)∧t 36=.int .i64 (p0.length:Int)∧t 37=.int .i64 s37b∧H 8=some ⟨v8fx,3,ab (eI .i64) l8fx,false,true,false⟩) ho35 ?_ ?_ ?_
       ·refine⟨v8j5,?_,?_,?_,?_,?_,?_,?_,?_,?_,?_⟩
        all_goals first|rfl|(simp only[aN,seval,-Int.reduceToNat,q4a,q4b,q4c,q4d,q4e,ax26,Zj5]<;>rfl)
       ·rintro⟨s53f,l8f⟩ t H e ⟨v8f,Zf⟩ c hh
        simp only[jh]at hh
        try simp only[aN,seval,-Int.reduceToNat,q4a,q4b,q4c,q4d,q4e,ax26,Zf]
        refine sp an hh (fun _ hh =>?_) (fun _ hh =>?_)
        ·obtain⟨x37,hx37,hh⟩:=ae hh
         have ax37:=bF (eI .i64) hx37
         simp only[bU]at ax37
         obtain⟨x38,hx38,hh⟩:=ae hh
         have ax38:=bF (eI .i64) hx38
         simp only[bU]at ax38
         obtain⟨x39,hx39,hh⟩:=ae hh
         have q40:=oR hx39
         have ax38:=bF (eI .i64) hx38
         simp only[bU]at ax38
         have p41:=jH (eI .i64) (x':=x39) (fo:=0) (cs:=[.int .i64 x39]) hx38 rfl (Nat.le_of_ble_eq_true rfl)
         simp only[bU,Nat.add_zero]at p41
         have up41:=p41
         simp only[putCells,List.length_cons,List.length_nil,Nat.zero_add,Nat.reduceAdd]at up41
         cases hh
         try simp only[aN,seval,-Int.reduceToNat,q4a,q4b,q4c,q4d,q4e,ax26,Zf,ax37,ax38,q40,ax38,p41,up41]
         refine iS ?_
         refine⟨v8f,?_,?_,?_,?_,?_,?_,?_,?_,?_,?_⟩
         all_goals first|rfl|(simp only[aN,seval,-Int.reduceToNat,q4a,q4b,q4c,q4d,q4e,ax26,Zf,ax37,ax38,q40,ax38,p41,up41]<;>rfl)
        ·cases hh
         try simp only[aN,seval,-Int.reduceToNat,q4a,q4b,q4c,q4d,q4e,ax26,Zf]
         refine ki ?_
         refine⟨rfl,⟨v8f,?_,?_,?_,?_,?_,?_,?_⟩⟩
         all_goals first|rfl|(simp only[aN,seval,-Int.reduceToNat,q4a,q4b,q4c,q4d,q4e,ax26,Zf]<;>rfl)
       ·rintro x t H e hx
        obtain⟨l8fx,rfl⟩:∃z,z=o35:=⟨_,rfl⟩
        dsimp only at hx hh
        obtain⟨rfl,⟨v8fx,Zfx⟩⟩:=hx
        cases hh
        try simp only[aN,seval,-Int.reduceToNat,q4a,q4b,q4c,q4d,q4e,ax26,Zfx]
        refine iS ?_
        refine⟨v8fx,?_,?_,?_,?_,?_,?_,?_⟩
        all_goals first|rfl|(simp only[aN,seval,-Int.reduceToNat,q4a,q4b,q4c,q4d,q4e,ax26,Zfx]<;>rfl)
     ·clear hh
      have hh:=ho27
      try simp only[aN,seval,-Int.reduceToNat,q4a,q4b,q4c,q4d,q4e,Zb,ax26]
      refine sp aR hh (fun _ hh =>?_) (fun _ hh =>?_)
      ·cases hh
       try simp only[aN,seval,-Int.reduceToNat,q4a,q4b,q4c,q4d,q4e,Zb,ax26]
       rw[al]
       refine⟨_,rfl,?_⟩
       refine⟨v8b,?_,?_,?_,?_,?_,?_,?_,?_,?_⟩
       all_goals first|rfl|(simp only[aN,seval,-Int.reduceToNat,q4a,q4b,q4c,q4d,q4e,Zb,ax26]<;>rfl)
      ·obtain⟨r43,hr43,hh⟩:=ae hh
       cases hh
       try simp only[aN,seval,-Int.reduceToNat,q4a,q4b,q4c,q4d,q4e,Zb,ax26,hr43]
       rw[al]
       refine⟨_,rfl,?_⟩
       refine⟨v8b,?_,?_,?_,?_,?_,?_,?_,?_,?_⟩
       all_goals first|rfl|(simp only[aN,seval,-Int.reduceToNat,q4a,q4b,q4c,q4d,q4e,Zb,ax26,hr43]<;>rfl)
    ·cases hh
     try simp only[aN,seval,-Int.reduceToNat,q4a,q4b,q4c,q4d,q4e,Zb]
     refine ki ?_
     refine⟨rfl,⟨v8b,?_,?_⟩⟩
     all_goals first|rfl|(simp only[aN,seval,-Int.reduceToNat,q4a,q4b,q4c,q4d,q4e,Zb]<;>rfl)
   ·rintro x t H e hx
    rcases o24 with l8bx|rb
    ·dsimp only at hx hh
     obtain⟨rfl,⟨v8bx,Zbx⟩⟩:=hx
     cases hh
     try simp only[aN,seval,-Int.reduceToNat,q4a,q4b,q4c,q4d,q4e,Zbx]
    ·dsimp only at hx hh
     obtain⟨rfl,hE⟩:=hx
     cases hh
     try simp only[bq,bc,bC,cP,cO]
     exact hE
 ·clear hh
  have hh:=ho1
  try simp only[aN,seval,-Int.reduceToNat]
  refine sp aR hh (fun _ hh =>?_) (fun _ hh =>?_)
  ·cases hh
   try simp only[aN,seval,-Int.reduceToNat]
   rw[al]
   refine⟨_,rfl,?_⟩
   refine⟨?_,?_,?_,?_⟩
   all_goals first|rfl|(simp only[aN,seval,-Int.reduceToNat]<;>rfl)
  ·try simp only[aN,seval,-Int.reduceToNat]
   refine sp aR hh (fun _ hh =>?_) (fun _ hh =>?_)
   ·cases hh
    try simp only[aN,seval,-Int.reduceToNat]
    rw[al]
    refine⟨_,rfl,?_⟩
    refine⟨?_,?_,?_,?_⟩
    all_goals first|rfl|(simp only[aN,seval,-Int.reduceToNat]<;>rfl)
   ·try simp only[aN,seval,-Int.reduceToNat]
    refine sp aR hh (fun _ hh =>?_) (fun _ hh =>?_)
    ·cases hh
     try simp only[aN,seval,-Int.reduceToNat]
     rw[al]
     refine⟨_,rfl,?_⟩
     refine⟨?_,?_,?_,?_⟩
     all_goals first|rfl|(simp only[aN,seval,-Int.reduceToNat]<;>rfl)
    ·try simp only[aN,seval,-Int.reduceToNat]
     refine sp aR hh (fun _ hh =>?_) (fun _ hh =>?_)
     ·cases hh
      try simp only[aN,seval,-Int.reduceToNat]
      rw[al]
      refine⟨_,rfl,?_⟩
      refine⟨?_,?_,?_,?_⟩
      all_goals first|rfl|(simp only[aN,seval,-Int.reduceToNat]<;>rfl)
     ·cases hh
      try simp only[aN,seval,-Int.reduceToNat]
      rw[al]
      refine⟨_,rfl,?_⟩
      refine⟨?_,?_,?_,?_⟩
      all_goals first|rfl|(simp only[aN,seval,-Int.reduceToNat]<;>rfl)
theorem Hz:bN Tryz.prog 82 su:=bN.of (mode := .clean) tok GZ mixed Tryz.func82 (by kernel_rfl) ⟨by kernel_rfl,by kernel_rfl⟩ (fun _=>Nat.le_of_ble_eq_true (by kernel_rfl)) (fun x r h=>Kj x.1 x.2.1 x.2.2 r h)
noncomputable def mw:=eB (dK (iG (eI .i64))) (fun x:(List Int)=>jw x) (fun r:(List Int) =>.clean (.clo 156 0 [.ip [.sl false false r.length (ab (eI .i64) r)]]))
theorem rS (p0:(List Int)):mw none [.sl false false p0.length (ab (eI .i64) p0)]=(jw p0).map fun r:(List Int)=>(.clean (.clo 156 0 [.ip [.sl false false r.length (ab (eI .i64) r)]]),none):=aJ _ _ _ p0
theorem yv:bN Tryz.prog 116 mw:=QK
noncomputable def dk:=eB (dK (Q1 156 0 (dK (Q2 (rG (eI .i64)))))) (fun x:(List Int)=>b8 x) (fun r:(List Int) =>.fresh 3 1 r.length (ab (eI .i64) r))
theorem eK (p0:(List Int)):dk none [.clo 156 0 [.ip [.sl false false p0.length (ab (eI .i64) p0)]]]=(b8 p0).map fun r:(List Int)=>(.fresh 3 1 r.length (ab (eI .i64) r),none):=aJ _ _ _ p0
theorem iA:bN Tryz.prog 115 dk:=QC
noncomputable def p7:=eB (dK (iG (eI .i64))) (fun x:(List Int)=>iX x) (fun r:Bool =>.clean (.bool r))
theorem xe (p0:(List Int)):p7 none [.sl false false p0.length (ab (eI .i64) p0)]=(iX p0).map fun r:Bool=>(.clean (.bool r),none):=aJ _ _ _ (p0)
noncomputable def mU:Env:=(Am.ext (Am.ext (Am.ext aU 70 true gR) 115 false dk) 116 false mw)
theorem Dx:bT Tryz.prog mU:=(((bT.none.add mG true).add iA false).add yv false)
theorem HY:type_of% (ai @w<|ai @eK<|ai @rS<|@mU.eq_1):=⟨@w,@eK,@rS,@mU.eq_1⟩
theorem Hc (p0:(List Int)) (r:Bool) (hh:iX p0=some r):aS .clean tab mU FU Tryz.f83 none [.sl false false p0.length (ab (eI .i64) p0)]=some (.clean (.bool r),none):=by
 refine aw rfl Tryz.ntmps83 Tryz.results83 ?_
 unfold iX at hh
 obtain⟨r1,hr1,hh⟩:=ae hh
 obtain⟨r2,hr2,hh⟩:=ae hh
 have i3:=oa [] [] r2
 try simp only[List.nil_append,List.append_nil,List.length_nil,aM,List.length_set,bU]at i3
 obtain⟨r4,hr4,hh⟩:=ae hh
 cases hh
 try simp only[HY,seval,-Int.reduceToNat,hr1,hr2,i3,hr4]
theorem DW:bN Tryz.prog 83 p7:=bN.of (mode := .clean) tok Dx mixed Tryz.func83 (by kernel_rfl) ⟨by kernel_rfl,by kernel_rfl⟩ (fun _=>Nat.le_of_ble_eq_true (by kernel_rfl)) (fun x r h=>Hc x r h)
noncomputable def ss:=eB (dR (cR dx) (dR (iG (eI .i64)) (dR (iG (rG (eI .i64))) (dR (iG (eI .i64)) (dR (aI .i64) (dK (aI .i64))))))) (fun x:av×(List Int)×(List (List Int))×(List Int)×Int×Int=>kb x.1 x.2.1 x.2.2.1 x.2.2.2.1 x.2.2.2.2.1 x.2.2.2.2.2) (fun r:(List Int)×Int =>.clean (.tup [.sl false false r.1.length (ab (eI .i64) r.1),.int .i64 r.2]))
theorem zu (p0_0:(List ak)) (p1:(List Int)) (p2:(List (List Int))) (p3:(List Int)) (p4:Int) (p5:Int):ss none [.agg [.sl false false p0_0.length (ab aq p0_0)],.sl false false p1.length (ab (eI .i64) p1),.sl false false p2.length (ab (rG (eI .i64)) p2),.sl false false p3.length (ab (eI .i64) p3),.int .i64 p4,.int .i64 p5]=(kb (av.mk p0_0) p1 p2 p3 p4 p5).map fun r:(List Int)×Int=>(.clean (.tup [.sl false false r.1.length (ab (eI .i64) r.1),.int .i64 r.2]),none):=aJ _ _ _ ((av.mk p0_0),p1,p2,p3,p4,p5)
noncomputable def oM:Env:=(Am.ext (Am.ext (Am.ext (Am.ext aU 21 false oz) 82 false su) 83 false p7) 84 false lL)
theorem GY:bT Tryz.prog oM:=((((bT.none.add w9 false).add Hz false).add DW false).add tA false)
theorem bR:type_of% (ai @w<|ai @mg<|ai @zw<|ai @xe<|ai @l3<|@oM.eq_1):=⟨@w,@mg,@zw,@xe,@l3,@oM.eq_1⟩
theorem Ki (p0:av) (p1:(List Int)) (p2:(List (List Int))) (p3:(List Int)) (p4:Int) (p5:Int) (r:(List Int)×Int) (hh:kb p0 p1 p2 p3 p4 p5=some r):aS .clean tab oM FU Tryz.f47 none [.agg [.sl false false p0.ag.length (ab aq p0.ag)],.sl false false p1.length (ab (eI .i64) p1),.sl false false p2.length (ab (rG (eI .i64)) p2),.sl false false p3.length (ab (eI .i64) p3),.int .i64 p4,.int .i64 p5]=some (.clean (.tup [.sl false false r.1.length (ab (eI .i64) r.1),.int .i64 r.2]),none):=by
 refine aw rfl Tryz.ntmps47 Tryz.results47 ?_
 unfold kb at hh
 obtain⟨r1,hr1,hh⟩:=ae hh
 try simp only[bR,seval,-Int.reduceToNat,hr1]
 refine sp an hh (fun _ hh =>?_) (fun _ hh =>?_)
 ·cases hh
  try simp only[bR,seval,-Int.reduceToNat,hr1]
 ·try simp only[bR,seval,-Int.reduceToNat,hr1]
  obtain⟨o3,ho3,hh⟩:=ae hh
  refine bH 0 (fun s t H e=>match s with|s29j1=>∃v6j1:Nat,t 1=.sl false false p1.length (ab (eI .i64) p1)∧t 2=.sl false false p2.length (ab (rG (eI .i64)) p2)∧t 3=.sl false false p3.length (ab (eI .i64) p3)∧t 6=.ptr 6 v6j1 0∧t 14=.sl false false r1.1.length (ab (eI .i64) r1.1)∧t 29=.bool s29j1∧H 6=some ⟨v6j1,24,[.sl false false p0.ag.length (ab aq p0.ag)],false,false,false⟩) (fun s=>s=o3) ?_ ?_
  ·rintro s29j1 t H e ⟨v6j1,Zj1⟩ rfl
   try dsimp only at hh
   try simp only[bR,seval,-Int.reduceToNat,hr1,Zj1]
   refine sp an hh (fun _ hh =>?_) (fun _ hh =>?_)
   ·cases hh
    try simp only[bR,seval,-Int.reduceToNat,hr1,Zj1]
   ·obtain⟨r5,hr5,hh⟩:=ae hh
    try simp only[bR,seval,-Int.reduceToNat,hr1,Zj1,hr5]
    refine sp an hh (fun _ hh =>?_) (fun _ hh =>?_)
    ·cases hh
     try simp only[bR,seval,-Int.reduceToNat,hr1,Zj1,hr5]
    ·try simp only[bR,seval,-Int.reduceToNat,hr1,Zj1,hr5]
     obtain⟨o14,ho14,hh⟩:=ae hh
     refine aB (fun s t H e=>match s with|s47b=>∃v6b:Nat,t 2=.sl false false p2.length (ab (rG (eI .i64)) p2)∧t 3=.sl false false p3.length (ab (eI .i64) p3)∧t 6=.ptr 6 v6b 0∧t 14=.sl false false r1.1.length (ab (eI .i64) r1.1)∧t 45=.sl false false p1.length (ab (eI .i64) p1)∧t 46=.int .i64 (p1.length:Int)∧t 47=.int .i64 s47b∧H 6=some ⟨v6b,24,[.sl false false p0.ag.length (ab aq p0.ag)],false,false,false⟩) (fun o x t H e=>match o with|(.inl _)=>x=.exit 1∧t 14=.sl false false r1.1.length (ab (eI .i64) r1.1)|(.inr r)=>x=.ret∧gj .clean tab none [.tmp 12,.tmp 13] ⟨t,H,e⟩=some (.clean (.tup [.sl false false r.1.length (ab (eI .i64) r.1),.int .i64 r.2]),none)) ho14 ?_ ?_ ?_
     ·refine⟨v6j1,?_,?_,?_,?_,?_,?_,?_,?_⟩
      all_goals first|rfl|(simp only[bR,seval,-Int.reduceToNat,hr1,Zj1,hr5]<;>rfl)
     ·rintro s47b t H e ⟨v6b,Zb⟩ c hh
      simp only[kV]at hh
      try simp only[bR,seval,-Int.reduceToNat,hr1,hr5,Zb]
      refine sp an hh (fun _ hh =>?_) (fun _ hh =>?_)
      ·obtain⟨x16,hx16,hh⟩:=ae hh
       have ax16:=bF (eI .i64) hx16
       simp only[bU]at ax16
       obtain⟨x17,hx17,hh⟩:=ae hh
       have ax17:=bF (rG (eI .i64)) hx17
       simp only[bU]at ax17
       obtain⟨r18,hr18,hh⟩:=ae hh
       obtain⟨x19,hx19,hh⟩:=ae hh
       have ax19:=bF (eI .i64) hx19
       simp only[bU]at ax19
       obtain⟨r20,hr20,hh⟩:=ae hh
       try simp only[bR,seval,-Int.reduceToNat,hr1,hr5,Zb,ax16,ax17,hr18,ax19,hr20]
       refine bX (by kernel_rfl) ?_
       try simp only[bR,seval,-Int.reduceToNat,hr1,hr5,Zb,ax16,ax17,hr18,ax19,hr20]
       refine sp an hh (fun _ hh =>?_) (fun _ hh =>?_)
       ·cases hh
        try simp only[bR,seval,-Int.reduceToNat,hr1,hr5,Zb,ax16,ax17,hr18,ax19,hr20]
        refine ti ⟨rfl,?_⟩
        try simp only[bR,seval,-Int.reduceToNat,hr1,hr5,Zb,ax16,ax17,hr18,ax19,hr20]
       ·cases hh
        try simp only[bR,seval,-Int.reduceToNat,hr1,hr5,Zb,ax16,ax17,hr18,ax19,hr20]
        refine iS ?_
        refine⟨v6b,?_,?_,?_,?_,?_,?_,?_,?_⟩
        all_goals first|rfl|(simp only[bR,seval,-Int.reduceToNat,hr1,hr5,Zb,ax16,ax17,hr18,ax19,hr20]<;>rfl)
      ·cases hh
       try simp only[bR,seval,-Int.reduceToNat,hr1,hr5,Zb]
       refine ki ?_
       refine⟨rfl,?_⟩
       all_goals first|rfl|(simp only[bR,seval,-Int.reduceToNat,hr1,hr5,Zb]<;>rfl)
     ·rintro x t H e hx
      rcases o14 with _|rb
      ·dsimp only at hx hh
       obtain⟨rfl,Zbx⟩:=hx
       cases hh
       try simp only[bR,seval,-Int.reduceToNat,hr1,hr5,Zbx]
      ·dsimp only at hx hh
       obtain⟨rfl,hE⟩:=hx
       cases hh
       try simp only[bq,bc,bC,cP,cO]
       exact hE
  ·clear hh
   have hh:=ho3
   try simp only[bR,seval,-Int.reduceToNat,hr1]
   refine sp aR hh (fun _ hh =>?_) (fun _ hh =>?_)
   ·cases hh
    try simp only[bR,seval,-Int.reduceToNat,hr1]
    rw[al]
    refine⟨_,rfl,?_⟩
    refine⟨0,?_,?_,?_,?_,?_,?_,?_⟩
    all_goals first|rfl|(simp only[bR,seval,-Int.reduceToNat,hr1]<;>rfl)
   ·cases hh
    try simp only[bR,seval,-Int.reduceToNat,hr1]
    rw[al]
    refine⟨_,rfl,?_⟩
    refine⟨0,?_,?_,?_,?_,?_,?_,?_⟩
    all_goals first|rfl|(simp only[bR,seval,-Int.reduceToNat,hr1]<;>rfl)
theorem Hy:bN Tryz.prog 47 ss:=bN.of (mode := .clean) tok GY mixed Tryz.func47 (by kernel_rfl) ⟨by kernel_rfl,by kernel_rfl⟩ (fun _=>Nat.le_of_ble_eq_true (by kernel_rfl)) (fun x r h=>Ki x.1 x.2.1 x.2.2.1 x.2.2.2.1 x.2.2.2.2.1 x.2.2.2.2.2 r h)
theorem Wh:QU Tryz.prog 85 (3,1,8):=PY Tryz.Wj Tryz.func85 ⟨by kernel_rfl,by kernel_rfl⟩
noncomputable def sr:=eB (dR (iG (eI .i64)) (dK (aI .i64))) (fun x:(List Int)×Int=>nF x.1 x.2) (fun r:(List Int)×Int =>.clean (.tup [.sl false false r.1.length (ab (eI .i64) r.1),.int .i64 r.2]))
theorem zt (p0:(List Int)) (p1:Int):sr none [.sl false false p0.length (ab (eI .i64) p0),.int .i64 p1]=(nF p0 p1).map fun r:(List Int)×Int=>(.clean (.tup [.sl false false r.1.length (ab (eI .i64) r.1),.int .i64 r.2]),none):=aJ _ _ _ (p0,p1)
noncomputable def oL:Env:=(Am.B6 85 (3,1,8) (Am.ext aU 23 false mJ))
theorem GX:bT Tryz.prog oL:=(bT.B6 (bT.none.add vc false) Wh)
theorem cp:type_of% (ai @w<|ai @nq<|@oL.eq_1):=⟨@w,@nq,@oL.eq_1⟩
theorem Kh (p0:(List Int)) (p1:Int) (r:(List Int)×Int) (hh:nF p0 p1=some r):aS .clean tab oL FU Tryz.f48 none [.sl false false p0.length (ab (eI .i64) p0),.int .i64 p1]=some (.clean (.tup [.sl false false r.1.length (ab (eI .i64) r.1),.int .i64 r.2]),none):=by
 refine aw rfl Tryz.ntmps48 Tryz.results48 ?_
 unfold nF at hh
 obtain⟨r1,hr1,hh⟩:=ae hh
 try simp only[cp,ne_eq,not_false_eq_true,seval,-Int.reduceToNat,hr1]
 refine sp an hh (fun _ hh =>?_) (fun _ hh =>?_)
 ·cases hh
  try simp only[cp,ne_eq,not_false_eq_true,seval,-Int.reduceToNat,hr1]
 ·obtain⟨x3,hx3,hh⟩:=ae hh
  obtain⟨q4a,q4b,q4c,q4d,q4e,q4f,q4g⟩:=Wl (eI .i64) hx3
  simp only[bU]at q4d
  try simp only[cp,ne_eq,not_false_eq_true,seval,-Int.reduceToNat,hr1,q4a,q4b,q4c,q4d,q4e,q4f,q4g]
  obtain⟨o18,ho18,hh⟩:=ae hh
  refine aB (fun s t H e=>match s with|(s20a,l6a,l7a)=>∃v6a:Nat,∃v7a:Nat,t 6=.buf 6 v6a 1 0 (l6a).length∧t 7=.buf 7 v7a 1 0 (l7a).length∧t 18=.sl false false p0.length (ab (eI .i64) p0)∧t 19=.int .i64 (p0.length:Int)∧t 20=.int .i64 s20a∧H 6=some ⟨v6a,3,ab (eI .i64) l6a,false,true,false⟩∧H 7=some ⟨v7a,3,ab (eI .i64) l7a,false,true,false⟩) (fun o x t H e=>match o with|l6ax=>x=.exit 0∧∃v6ax:Nat,t 6=.buf 6 v6ax 1 0 (l6ax).length∧H 6=some ⟨v6ax,3,ab (eI .i64) l6ax,false,true,false⟩) ho18 ?_ ?_ ?_
  ·refine⟨2,3,?_,?_,?_,?_,?_,?_,?_⟩
   all_goals first|rfl|(simp only[cp,ne_eq,not_false_eq_true,seval,-Int.reduceToNat,hr1,q4a,q4b,q4c,q4d,q4e,q4f,q4g]<;>rfl)
  ·rintro⟨s20a,l6a,l7a⟩ t H e ⟨v6a,v7a,Za⟩ c hh
   simp only[xo]at hh
   try simp only[cp,ne_eq,not_false_eq_true,seval,-Int.reduceToNat,hr1,q4a,q4b,q4c,q4d,q4e,q4f,q4g,Za]
   refine sp an hh (fun _ hh =>?_) (fun _ hh =>?_)
   ·obtain⟨x20,hx20,hh⟩:=ae hh
    have ax20:=bF (eI .i64) hx20
    simp only[bU]at ax20
    try simp only[cp,ne_eq,not_false_eq_true,seval,-Int.reduceToNat,hr1,q4a,q4b,q4c,q4d,q4e,q4f,q4g,Za,ax20]
    obtain⟨o24,ho24,hh⟩:=ae hh
    refine aB (fun s t H e=>match s with|(s9c,s10c)=>∃v6c:Nat,∃v7c:Nat,t 6=.buf 6 v6c 1 0 (l6a).length∧t 7=.buf 7 v7c 1 0 (l7a).length∧t 9=.int .i64 s9c∧t 10=.int .i64 s10c∧t 18=.sl false false p0.length (ab (eI .i64) p0)∧t 19=.int .i64 (p0.length:Int)∧t 20=.int .i64 s20a∧H 6=some ⟨v6c,3,ab (eI .i64) l6a,false,true,false⟩∧H 7=some ⟨v7c,3,ab (eI .i64) l7a,false,true,false⟩) (fun o x t H e=>match o with|(s9cx,s10cx)=>x=.exit 2∧∃v6cx:Nat,∃v7cx:Nat,t 6=.buf 6 v6cx 1 0 (l6a).length∧t 7=.buf 7 v7cx 1 0 (l7a).length∧t 9=.int .i64 s9cx∧t 10=.int .i64 s10cx∧t 18=.sl false false p0.length (ab (eI .i64) p0)∧t 19=.int .i64 (p0.length:Int)∧t 20=.int .i64 s20a∧H 6=some ⟨v6cx,3,ab (eI .i64) l6a,false,true,false⟩∧H 7=some ⟨v7cx,3,ab (eI .i64) l7a,false,true,false⟩) ho24 ?_ ?_ ?_
    ·refine⟨v6a,v7a,?_,?_,?_,?_,?_,?_,?_,?_,?_⟩
     all_goals first|rfl|(simp only[cp,ne_eq,not_false_eq_true,seval,-Int.reduceToNat,hr1,q4a,q4b,q4c,q4d,q4e,q4f,q4g,Za,ax20]<;>rfl)
    ·rintro⟨s9c,s10c⟩ t H e ⟨v6c,v7c,Zc⟩ c hh
     simp only[xp]at hh
     try simp only[cp,ne_eq,not_false_eq_true,seval,-Int.reduceToNat,hr1,q4a,q4b,q4c,q4d,q4e,q4f,q4g,ax20,Zc]
     refine sp bk hh (fun _ hh =>?_) (fun _ hh =>?_)
     ·obtain⟨x26,hx26,hh⟩:=ae hh
      have ax26:=bF (eI .i64) hx26
      simp only[bU]at ax26
      try simp only[cp,ne_eq,not_false_eq_true,seval,-Int.reduceToNat,hr1,q4a,q4b,q4c,q4d,q4e,q4f,q4g,ax20,Zc,ax26]
      refine sp an hh (fun _ hh =>?_) (fun _ hh =>?_)
      ·cases hh
       try simp only[cp,ne_eq,not_false_eq_true,seval,-Int.reduceToNat,hr1,q4a,q4b,q4c,q4d,q4e,q4f,q4g,ax20,Zc,ax26]
       refine iS ?_
       refine⟨v6c,v7c,?_,?_,?_,?_,?_,?_,?_,?_,?_⟩
       all_goals first|rfl|(simp only[cp,ne_eq,not_false_eq_true,seval,-Int.reduceToNat,hr1,q4a,q4b,q4c,q4d,q4e,q4f,q4g,ax20,Zc,ax26]<;>rfl)
      ·cases hh
       try simp only[cp,ne_eq,not_false_eq_true,seval,-Int.reduceToNat,hr1,q4a,q4b,q4c,q4d,q4e,q4f,q4g,ax20,Zc,ax26]
       refine ki ?_
       refine⟨rfl,⟨v6c,v7c,?_,?_,?_,?_,?_,?_,?_,?_,?_⟩⟩
       all_goals first|rfl|(simp only[cp,ne_eq,not_false_eq_true,seval,-Int.reduceToNat,hr1,q4a,q4b,q4c,q4d,q4e,q4f,q4g,ax20,Zc,ax26]<;>rfl)
     ·cases hh
      try simp only[cp,ne_eq,not_false_eq_true,seval,-Int.reduceToNat,hr1,q4a,q4b,q4c,q4d,q4e,q4f,q4g,ax20,Zc]
      refine ki ?_
      refine⟨rfl,⟨v6c,v7c,?_,?_,?_,?_,?_,?_,?_,?_,?_⟩⟩
      all_goals first|rfl|(simp only[cp,ne_eq,not_false_eq_true,seval,-Int.reduceToNat,hr1,q4a,q4b,q4c,q4d,q4e,q4f,q4g,ax20,Zc]<;>rfl)
    ·rintro x t H e hx
     rcases o24 with⟨s9cx,s10cx⟩
     dsimp only at hx hh
     obtain⟨rfl,⟨v6cx,v7cx,Zcx⟩⟩:=hx
     obtain⟨x28,hx28,hh⟩:=ae hh
     obtain⟨q29a,q29b,q29c,q29d⟩:=fD (eI .i64) hx28
     simp only[bU]at q29b
     obtain⟨x30,hx30,hh⟩:=ae hh
     obtain⟨q31a,q31b,q31c,q31d,q31e⟩:=UB (eI .i64) hx30
     simp only[bU]at q31e
     cases hh
     try simp only[cp,ne_eq,not_false_eq_true,seval,-Int.reduceToNat,hr1,q4a,q4b,q4c,q4d,q4e,q4f,q4g,ax20,Zcx,q29a,q29b,q29c,q29d,q31a,q31b,q31c,q31d,q31e]
     refine iS ?_
     refine⟨e,e,?_,?_,?_,?_,?_,?_,?_⟩
     all_goals first|rfl|(simp only[cp,ne_eq,not_false_eq_true,seval,-Int.reduceToNat,hr1,q4a,q4b,q4c,q4d,q4e,q4f,q4g,ax20,Zcx,q29a,q29b,q29c,q29d,q31a,q31b,q31c,q31d,q31e]<;>rfl)
   ·cases hh
    try simp only[cp,ne_eq,not_false_eq_true,seval,-Int.reduceToNat,hr1,q4a,q4b,q4c,q4d,q4e,q4f,q4g,Za]
    refine ki ?_
    refine⟨rfl,⟨v6a,?_,?_⟩⟩
    all_goals first|rfl|(simp only[cp,ne_eq,not_false_eq_true,seval,-Int.reduceToNat,hr1,q4a,q4b,q4c,q4d,q4e,q4f,q4g,Za]<;>rfl)
  ·rintro x t H e hx
   obtain⟨l6ax,rfl⟩:∃z,z=o18:=⟨_,rfl⟩
   dsimp only at hx hh
   obtain⟨rfl,⟨v6ax,Zax⟩⟩:=hx
   cases hh
   try simp only[cp,ne_eq,not_false_eq_true,seval,-Int.reduceToNat,hr1,q4a,q4b,q4c,q4d,q4e,q4f,q4g,Zax]
theorem Hw:bN Tryz.prog 48 sr:=bN.of (mode := .clean) tok GX mixed Tryz.func48 (by kernel_rfl) ⟨by kernel_rfl,by kernel_rfl⟩ (fun _=>Nat.le_of_ble_eq_true (by kernel_rfl)) (fun x r h=>Kh x.1 x.2 r h)
noncomputable def pf:=eB (dR (cR dx) (dR (iG (eI .i64)) (dR (iG (rG (eI .i64))) (dR (iG (eI .i64)) (dR (iG (eI .i64)) (dK (aI .i64))))))) (fun x:av×(List Int)×(List (List Int))×(List Int)×(List Int)×Int=>iN x.1 x.2.1 x.2.2.1 x.2.2.2.1 x.2.2.2.2.1 x.2.2.2.2.2) (fun r:(List Int)×Int =>.clean (.tup [.sl false false r.1.length (ab (eI .i64) r.1),.int .i64 r.2]))
theorem pz (p0_0:(List ak)) (p1:(List Int)) (p2:(List (List Int))) (p3:(List Int)) (p4:(List Int)) (p5:Int):pf none [.agg [.sl false false p0_0.length (ab aq p0_0)],.sl false false p1.length (ab (eI .i64) p1),.sl false false p2.length (ab (rG (eI .i64)) p2),.sl false false p3.length (ab (eI .i64) p3),.sl false false p4.length (ab (eI .i64) p4),.int .i64 p5]=(iN (av.mk p0_0) p1 p2 p3 p4 p5).map fun r:(List Int)×Int=>(.clean (.tup [.sl false false r.1.length (ab (eI .i64) r.1),.int .i64 r.2]),none):=aJ _ _ _ ((av.mk p0_0),p1,p2,p3,p4,p5)
noncomputable def lN:Env:=(Am.ext (Am.ext (Am.ext aU 42 false lG) 47 false ss) 48 false sr)
theorem BR:bT Tryz.prog lN:=(((bT.none.add tr false).add Hy false).add Hw false)
theorem dt:type_of% (ai @w<|ai @lW<|ai @zu<|ai @zt<|@lN.eq_1):=⟨@w,@lW,@zu,@zt,@lN.eq_1⟩
theorem DG (p0:av) (p1:(List Int)) (p2:(List (List Int))) (p3:(List Int)) (p4:(List Int)) (p5:Int) (r:(List Int)×Int) (hh:iN p0 p1 p2 p3 p4 p5=some r):aS .clean tab lN FU Tryz.f15 none [.agg [.sl false false p0.ag.length (ab aq p0.ag)],.sl false false p1.length (ab (eI .i64) p1),.sl false false p2.length (ab (rG (eI .i64)) p2),.sl false false p3.length (ab (eI .i64) p3),.sl false false p4.length (ab (eI .i64) p4),.int .i64 p5]=some (.clean (.tup [.sl false false r.1.length (ab (eI .i64) r.1),.int .i64 r.2]),none):=by
 refine aw rfl Tryz.ntmps15 Tryz.results15 ?_
 unfold iN at hh
 obtain⟨r1,hr1,hh⟩:=ae hh
 try simp only[dt,seval,-Int.reduceToNat,hr1]
 refine sp an hh (fun _ hh =>?_) (fun _ hh =>?_)
 ·cases hh
  try simp only[dt,seval,-Int.reduceToNat,hr1]
 ·obtain⟨r3,hr3,hh⟩:=ae hh
  try simp only[dt,seval,-Int.reduceToNat,hr1,hr3]
  refine sp an hh (fun _ hh =>?_) (fun _ hh =>?_)
  ·cases hh
   try simp only[dt,seval,-Int.reduceToNat,hr1,hr3]
  ·obtain⟨r5,hr5,hh⟩:=ae hh
   try simp only[dt,seval,-Int.reduceToNat,hr1,hr3,hr5]
   obtain⟨o11,ho11,hh⟩:=ae hh
   refine aB (fun s t H e=>match s with|(s46a,l18a)=>∃v18a:Nat,t 4=.sl false false p4.length (ab (eI .i64) p4)∧t 18=.buf 18 v18a 1 0 (l18a).length∧t 44=.sl false false r5.1.length (ab (eI .i64) r5.1)∧t 45=.int .i64 (r5.1.length:Int)∧t 46=.int .i64 s46a∧H 18=some ⟨v18a,3,ab (eI .i64) l18a,false,true,false⟩) (fun o x t H e=>match o with|l18ax=>x=.exit 0∧∃v18ax:Nat,t 18=.buf 18 v18ax 1 0 (l18ax).length∧H 18=some ⟨v18ax,3,ab (eI .i64) l18ax,false,true,false⟩) ho11 ?_ ?_ ?_
   ·refine⟨5,?_,?_,?_,?_,?_,?_⟩
    all_goals first|rfl|(simp only[dt,seval,-Int.reduceToNat,hr1,hr3,hr5]<;>rfl)
   ·rintro⟨s46a,l18a⟩ t H e ⟨v18a,Za⟩ c hh
    simp only[nK]at hh
    try simp only[dt,seval,-Int.reduceToNat,hr1,hr3,hr5,Za]
    refine sp an hh (fun _ hh =>?_) (fun _ hh =>?_)
    ·obtain⟨x13,hx13,hh⟩:=ae hh
     have ax13:=bF (eI .i64) hx13
     simp only[bU]at ax13
     obtain⟨x14,hx14,hh⟩:=ae hh
     have ax14:=bF (eI .i64) hx14
     simp only[bU]at ax14
     obtain⟨x15,hx15,hh⟩:=ae hh
     obtain⟨q16a,q16b,q16c,q16d⟩:=fD (eI .i64) hx15
     simp only[bU]at q16b
     cases hh
     try simp only[dt,seval,-Int.reduceToNat,hr1,hr3,hr5,Za,ax13,ax14,q16a,q16b,q16c,q16d]
     refine iS ?_
     refine⟨e+1+1,?_,?_,?_,?_,?_,?_⟩
     all_goals first|rfl|(simp only[dt,seval,-Int.reduceToNat,hr1,hr3,hr5,Za,ax13,ax14,q16a,q16b,q16c,q16d]<;>rfl)
    ·cases hh
     try simp only[dt,seval,-Int.reduceToNat,hr1,hr3,hr5,Za]
     refine ki ?_
     refine⟨rfl,⟨v18a,?_,?_⟩⟩
     all_goals first|rfl|(simp only[dt,seval,-Int.reduceToNat,hr1,hr3,hr5,Za]<;>rfl)
   ·rintro x t H e hx
    obtain⟨l18ax,rfl⟩:∃z,z=o11:=⟨_,rfl⟩
    dsimp only at hx hh
    obtain⟨rfl,⟨v18ax,Zax⟩⟩:=hx
    cases hh
    try simp only[dt,seval,-Int.reduceToNat,hr1,hr3,hr5,Zax]
theorem Cp:bN Tryz.prog 15 pf:=bN.of (mode := .clean) tok BR mixed Tryz.func15 (by kernel_rfl) ⟨by kernel_rfl,by kernel_rfl⟩ (fun _=>Nat.le_of_ble_eq_true (by kernel_rfl)) (fun x r h=>DG x.1 x.2.1 x.2.2.1 x.2.2.2.1 x.2.2.2.2.1 x.2.2.2.2.2 r h)
noncomputable def si:=eB (Ua) (fun x:Unit=>lr) (fun r:Bool =>.clean (.bool r))
theorem zn:si none []=(lr).map fun r:Bool=>(.clean (.bool r),none):=aJ _ _ _ ()
noncomputable def oG:Env:=(Am.ext (Am.ext (Am.ext (Am.ext (Am.ext (Am.ext (Am.ext (Am.ext aU 13 false jn) 15 false pf) 18 false nI) 20 false qf) 21 false oz) 35 false pj) 37 false mK) 38 false vC)
theorem GR:bT Tryz.prog oG:=((((((((bT.none.add n5 false).add Cp false).add Ad false).add D0 false).add w9 false).add Cs false).add vd false).add KH false)
theorem bj:type_of% (ai @w<|ai @dH<|ai @pz<|ai @kL<|ai @xi<|ai @mg<|ai @vg<|ai @kN<|ai @ly<|@oG.eq_1):=⟨@w,@dH,@pz,@kL,@xi,@mg,@vg,@kN,@ly,@oG.eq_1⟩
theorem J8 (r:Bool) (hh:lr=some r):aS .clean tab oG FU Tryz.f9 none []=some (.clean (.bool r),none):=by
 refine aw rfl Tryz.ntmps9 Tryz.results9 ?_
 unfold lr at hh
 have i1:=kN ([]) ([ByteArray.mk #[97],ByteArray.mk #[98],ByteArray.mk #[99]]) ([30,20,10]) ([7,8,9])
 simp only[aM,bU,List.length_cons,List.length_nil,Nat.zero_add,Nat.reduceAdd,List.length_set]at i1
 obtain⟨r2,hr2,hh⟩:=ae hh
 try simp only[bj,seval,-Int.reduceToNat,i1,hr2]
 obtain⟨o3,ho3,hh⟩:=ae hh
 refine bH 0 (fun s t H e=>match s with|s37j1=>∃v1j1:Nat,t 1=.ptr 1 v1j1 0∧t 3=.sl false false r2.2.2.1.length (ab (eI .i64) r2.2.2.1)∧t 37=.bool s37j1∧H 1=some ⟨v1j1,24,[.sl false false r2.1.ag.length (ab aq r2.1.ag)],false,false,false⟩) (fun s=>s=o3) ?_ ?_
 ·rintro s37j1 t H e ⟨v1j1,Zj1⟩ rfl
  try dsimp only at hh
  try simp only[bj,seval,-Int.reduceToNat,i1,hr2,Zj1]
  refine sp an hh (fun _ hh =>?_) (fun _ hh =>?_)
  ·cases hh
   try simp only[bj,seval,-Int.reduceToNat,i1,hr2,Zj1]
  ·obtain⟨r5,hr5,hh⟩:=ae hh
   obtain⟨r6,hr6,hh⟩:=ae hh
   have i7:=ly r2.1.ag ([1]) 20 ([(aG.mk 1 r5)]) ([])
   simp only[aM,bU,List.length_cons,List.length_nil,Nat.zero_add,Nat.reduceAdd,List.length_set]at i7
   obtain⟨r8,hr8,hh⟩:=ae hh
   try simp only[bj,seval,-Int.reduceToNat,i1,hr2,Zj1,hr5,hr6,i7,hr8]
   obtain⟨o9,ho9,hh⟩:=ae hh
   refine bH 0 (fun s t H e=>match s with|s7j2=>∃v1j2:Nat,∃v5j2:Nat,∃v6j2:Nat,t 1=.ptr 1 v1j2 0∧t 3=.sl false false r2.2.2.1.length (ab (eI .i64) r2.2.2.1)∧t 5=.ptr 5 v5j2 0∧t 6=.ptr 6 v6j2 0∧t 7=.bool s7j2∧H 1=some ⟨v1j2,24,[.sl false false r2.1.ag.length (ab aq r2.1.ag)],false,false,false⟩∧H 5=some ⟨v5j2,55,[.int .i64 1,.int .i64 r5.bB.cz.aj,.sl false false r5.bB.cz.aa.length (ab (eI .i64) r5.bB.cz.aa),.int .i64 r5.bB.cw.aj,.sl false false r5.bB.cw.aa.length (ab (eI .i64) r5.bB.cw.aa),.int .i64 r5.aV.cz.aj,.sl false false r5.aV.cz.aa.length (ab (eI .i64) r5.aV.cz.aa),.int .i64 r5.aV.cw.aj,.sl false false r5.aV.cw.aa.length (ab (eI .i64) r5.aV.cw.aa)],false,false,false⟩∧H 6=some ⟨v6j2,55,[.int .i64 1,.int .i64 r6.bB.cz.aj,.sl false false r6.bB.cz.aa.length (ab (eI .i64) r6.bB.cz.aa),.int .i64 r6.bB.cw.aj,.sl false false r6.bB.cw.aa.length (ab (eI .i64) r6.bB.cw.aa),.int .i64 r6.aV.cz.aj,.sl false false r6.aV.cz.aa.length (ab (eI .i64) r6.aV.cz.aa),.int .i64 r6.aV.cw.aj,.sl false false r6.aV.cw.aa.length (ab (eI .i64) r6.aV.cw.aa)],false,false,false⟩) (fun s=>s=o9) ?_ ?_
   ·rintro s7j2 t H e ⟨v1j2,v5j2,v6j2,Zj2⟩ rfl
    try dsimp only at hh
    have i10:=ly r2.1.ag ([1]) 20 ([(aG.mk 1 r5),(aG.mk 1 r6)]) ([(bn.mk 1 2)])
    simp only[aM,bU,List.length_cons,List.length_nil,Nat.zero_add,Nat.reduceAdd,List.length_set]at i10
    obtain⟨r11,hr11,hh⟩:=ae hh
    have i12:=dH r2.1.ag 4 60 24 ([1,1]) ([]) ([])
    simp only[aM,bU,List.length_cons,List.length_nil,Nat.zero_add,Nat.reduceAdd,List.length_set]at i12
    obtain⟨r13,hr13,hh⟩:=ae hh
    have i14:=mg ([2,0])
    simp only[aM,bU,List.length_cons,List.length_nil,Nat.zero_add,Nat.reduceAdd,List.length_set]at i14
    obtain⟨r15,hr15,hh⟩:=ae hh
    obtain⟨r16,hr16,hh⟩:=ae hh
    try simp only[bj,seval,-Int.reduceToNat,i1,hr2,hr5,hr6,i7,hr8,Zj2,i10,hr11,i12,hr13,i14,hr15,hr16]
    refine bX (by kernel_rfl) ?_
    have i17:=pz r16.1.ag ([r16.2.1]) ([[2,0]]) ([5]) r2.2.2.1 2
    simp only[aM,bU,List.length_cons,List.length_nil,Nat.zero_add,Nat.reduceAdd,List.length_set]at i17
    obtain⟨r18,hr18,hh⟩:=ae hh
    try simp only[bj,seval,-Int.reduceToNat,i1,hr2,hr5,hr6,i7,hr8,Zj2,i10,hr11,i12,hr13,i14,hr15,hr16,i17,hr18]
    refine sp bk hh (fun _ hh =>?_) (fun _ hh =>?_)
    ·try simp only[bj,seval,-Int.reduceToNat,i1,hr2,hr5,hr6,i7,hr8,Zj2,i10,hr11,i12,hr13,i14,hr15,hr16,i17,hr18]
     refine sp bk hh (fun _ hh =>?_) (fun _ hh =>?_)
     ·try simp only[bj,seval,-Int.reduceToNat,i1,hr2,hr5,hr6,i7,hr8,Zj2,i10,hr11,i12,hr13,i14,hr15,hr16,i17,hr18]
      refine sp bk hh (fun _ hh =>?_) (fun _ hh =>?_)
      ·try simp only[bj,seval,-Int.reduceToNat,i1,hr2,hr5,hr6,i7,hr8,Zj2,i10,hr11,i12,hr13,i14,hr15,hr16,i17,hr18]
       refine sp bk hh (fun _ hh =>?_) (fun _ hh =>?_)
       ·try simp only[bj,seval,-Int.reduceToNat,i1,hr2,hr5,hr6,i7,hr8,Zj2,i10,hr11,i12,hr13,i14,hr15,hr16,i17,hr18]
        refine sp bk hh (fun _ hh =>?_) (fun _ hh =>?_)
        ·have i24:=kL r18.1 ([2,0])
         simp only[aM,bU,List.length_cons,List.length_nil,Nat.zero_add,Nat.reduceAdd,List.length_set]at i24
         obtain⟨r25,hr25,hh⟩:=ae hh
         cases hh
         try simp only[bj,seval,-Int.reduceToNat,i1,hr2,hr5,hr6,i7,hr8,Zj2,i10,hr11,i12,hr13,i14,hr15,hr16,i17,hr18,i24,hr25]
        ·cases hh
         try simp only[bj,seval,-Int.reduceToNat,i1,hr2,hr5,hr6,i7,hr8,Zj2,i10,hr11,i12,hr13,i14,hr15,hr16,i17,hr18]
       ·cases hh
        try simp only[bj,seval,-Int.reduceToNat,i1,hr2,hr5,hr6,i7,hr8,Zj2,i10,hr11,i12,hr13,i14,hr15,hr16,i17,hr18]
      ·cases hh
       try simp only[bj,seval,-Int.reduceToNat,i1,hr2,hr5,hr6,i7,hr8,Zj2,i10,hr11,i12,hr13,i14,hr15,hr16,i17,hr18]
     ·cases hh
      try simp only[bj,seval,-Int.reduceToNat,i1,hr2,hr5,hr6,i7,hr8,Zj2,i10,hr11,i12,hr13,i14,hr15,hr16,i17,hr18]
    ·cases hh
     try simp only[bj,seval,-Int.reduceToNat,i1,hr2,hr5,hr6,i7,hr8,Zj2,i10,hr11,i12,hr13,i14,hr15,hr16,i17,hr18]
   ·clear hh
    have hh:=ho9
    try simp only[bj,seval,-Int.reduceToNat,i1,hr2,Zj1,hr5,hr6,i7,hr8]
    refine sp bk hh (fun _ hh =>?_) (fun _ hh =>?_)
    ·have i27:=ly r2.1.ag ([1,2]) 20 ([]) ([(bn.mk 2 0)])
     simp only[aM,bU,List.length_cons,List.length_nil,Nat.zero_add,Nat.reduceAdd,List.length_set]at i27
     obtain⟨r28,hr28,hh⟩:=ae hh
     try simp only[bj,seval,-Int.reduceToNat,i1,hr2,Zj1,hr5,hr6,i7,hr8,i27,hr28]
     refine sp bk hh (fun _ hh =>?_) (fun _ hh =>?_)
     ·have i30:=ly r2.1.ag ([1]) 21 ([]) ([(bn.mk 1 1)])
      simp only[aM,bU,List.length_cons,List.length_nil,Nat.zero_add,Nat.reduceAdd,List.length_set]at i30
      obtain⟨r31,hr31,hh⟩:=ae hh
      cases hh
      try simp only[bj,seval,-Int.reduceToNat,i1,hr2,Zj1,hr5,hr6,i7,hr8,i27,hr28,i30,hr31]
      rw[al]
      refine⟨_,rfl,?_⟩
      refine⟨v1j1,e,e+1,?_,?_,?_,?_,?_,?_,?_,?_⟩
      all_goals first|rfl|(simp only[bj,seval,-Int.reduceToNat,i1,hr2,Zj1,hr5,hr6,i7,hr8,i27,hr28,i30,hr31]<;>rfl)
     ·cases hh
      try simp only[bj,seval,-Int.reduceToNat,i1,hr2,Zj1,hr5,hr6,i7,hr8,i27,hr28]
      rw[al]
      refine⟨_,rfl,?_⟩
      refine⟨v1j1,e,e+1,?_,?_,?_,?_,?_,?_,?_,?_⟩
      all_goals first|rfl|(simp only[bj,seval,-Int.reduceToNat,i1,hr2,Zj1,hr5,hr6,i7,hr8,i27,hr28]<;>rfl)
    ·cases hh
     try simp only[bj,seval,-Int.reduceToNat,i1,hr2,Zj1,hr5,hr6,i7,hr8]
     rw[al]
     refine⟨_,rfl,?_⟩
     refine⟨v1j1,e,e+1,?_,?_,?_,?_,?_,?_,?_,?_⟩
     all_goals first|rfl|(simp only[bj,seval,-Int.reduceToNat,i1,hr2,Zj1,hr5,hr6,i7,hr8]<;>rfl)
 ·clear hh
  have hh:=ho3
  try simp only[bj,seval,-Int.reduceToNat,i1,hr2]
  refine sp aR hh (fun _ hh =>?_) (fun _ hh =>?_)
  ·cases hh
   try simp only[bj,seval,-Int.reduceToNat,i1,hr2]
   rw[al]
   refine⟨_,rfl,?_⟩
   refine⟨1,?_,?_,?_,?_⟩
   all_goals first|rfl|(simp only[bj,seval,-Int.reduceToNat,i1,hr2]<;>rfl)
  ·try simp only[bj,seval,-Int.reduceToNat,i1,hr2]
   refine sp aR hh (fun _ hh =>?_) (fun _ hh =>?_)
   ·cases hh
    try simp only[bj,seval,-Int.reduceToNat,i1,hr2]
    rw[al]
    refine⟨_,rfl,?_⟩
    refine⟨1,?_,?_,?_,?_⟩
    all_goals first|rfl|(simp only[bj,seval,-Int.reduceToNat,i1,hr2]<;>rfl)
   ·have i34:=kL r2.2.2.1 ([0,1,2])
    simp only[aM,bU,List.length_cons,List.length_nil,Nat.zero_add,Nat.reduceAdd,List.length_set]at i34
    obtain⟨r35,hr35,hh⟩:=ae hh
    cases hh
    try simp only[bj,seval,-Int.reduceToNat,i1,hr2,i34,hr35]
    rw[al]
    refine⟨_,rfl,?_⟩
    refine⟨1,?_,?_,?_,?_⟩
    all_goals first|rfl|(simp only[bj,seval,-Int.reduceToNat,i1,hr2,i34,hr35]<;>rfl)
theorem Hq:bN Tryz.prog 9 si:=bN.of (mode := .clean) tok GR mixed Tryz.func9 (by kernel_rfl) ⟨by kernel_rfl,by kernel_rfl⟩ (fun _=>Nat.le_of_ble_eq_true (by kernel_rfl)) (fun x r h=>J8  r h)
noncomputable def xN:=eB (dR (cR dx) (dK (aI .i64))) (fun x:av×Int=>qX x.1 x.2) (fun r:Bool =>.clean (.bool r))
theorem FX (p0_0:(List ak)) (p1:Int):xN none [.agg [.sl false false p0_0.length (ab aq p0_0)],.int .i64 p1]=(qX (av.mk p0_0) p1).map fun r:Bool=>(.clean (.bool r),none):=aJ _ _ _ ((av.mk p0_0),p1)
theorem Qf (p0:av) (p1:Int) (r:Bool) (hh:qX p0 p1=some r):aS .clean tab aU FU Tryz.f10 none [.agg [.sl false false p0.ag.length (ab aq p0.ag)],.int .i64 p1]=some (.clean (.bool r),none):=by
 refine aw rfl Tryz.ntmps10 Tryz.results10 ?_
 unfold qX at hh
 try simp only[w,seval,-Int.reduceToNat]
 obtain⟨o6,ho6,hh⟩:=ae hh
 refine aB (fun s t H e=>match s with|s5a=>∃v2a:Nat,t 1=.int .i64 p1∧t 2=.ptr 2 v2a 0∧t 5=.int .i64 s5a∧H 2=some ⟨v2a,24,[.sl false false p0.ag.length (ab aq p0.ag)],false,false,false⟩) (fun o x t H e=>match o with|(.inl _)=>x=.exit 0∧∃v2ax:Nat,t 1=.int .i64 p1∧t 2=.ptr 2 v2ax 0∧H 2=some ⟨v2ax,24,[.sl false false p0.ag.length (ab aq p0.ag)],false,false,false⟩|(.inr r)=>x=.ret∧gj .clean tab none [.tmp 4] ⟨t,H,e⟩=some (.clean (.bool r),none)) ho6 ?_ ?_ ?_
 ·refine⟨0,?_,?_,?_,?_⟩
  all_goals first|rfl|(simp only[w,seval,-Int.reduceToNat]<;>rfl)
 ·rintro s5a t H e ⟨v2a,Za⟩ c hh
  simp only[qY]at hh
  try simp only[w,seval,-Int.reduceToNat,Za]
  obtain⟨o7,ho7,hh⟩:=ae hh
  refine bH 0 (fun s t H e=>match s with|s15j3=>∃v2j3:Nat,t 1=.int .i64 p1∧t 2=.ptr 2 v2j3 0∧t 5=.int .i64 s5a∧t 15=.bool s15j3∧H 2=some ⟨v2j3,24,[.sl false false p0.ag.length (ab aq p0.ag)],false,false,false⟩) (fun s=>s=o7) ?_ ?_
  ·rintro s15j3 t H e ⟨v2j3,Zj3⟩ rfl
   try dsimp only at hh
   try simp only[w,seval,-Int.reduceToNat,Zj3]
   refine sp an hh (fun _ hh =>?_) (fun _ hh =>?_)
   ·obtain⟨x9,hx9,hh⟩:=ae hh
    have ax9:=bF aq hx9
    simp only[bU]at ax9
    try simp only[w,seval,-Int.reduceToNat,Zj3,ax9]
    refine sp an hh (fun _ hh =>?_) (fun _ hh =>?_)
    ·cases hh
     try simp only[w,seval,-Int.reduceToNat,Zj3,ax9]
     refine ti ⟨rfl,?_⟩
     try simp only[w,seval,-Int.reduceToNat,Zj3,ax9]
    ·cases hh
     try simp only[w,seval,-Int.reduceToNat,Zj3,ax9]
     refine iS ?_
     refine⟨v2j3,?_,?_,?_,?_⟩
     all_goals first|rfl|(simp only[w,seval,-Int.reduceToNat,Zj3,ax9]<;>rfl)
   ·cases hh
    try simp only[w,seval,-Int.reduceToNat,Zj3]
    refine ki ?_
    refine⟨rfl,⟨v2j3,?_,?_,?_⟩⟩
    all_goals first|rfl|(simp only[w,seval,-Int.reduceToNat,Zj3]<;>rfl)
  ·clear hh
   have hh:=ho7
   try simp only[w,seval,-Int.reduceToNat,Za]
   refine sp bk hh (fun _ hh =>?_) (fun _ hh =>?_)
   ·cases hh
    try simp only[w,seval,-Int.reduceToNat,Za]
    rw[al]
    refine⟨_,rfl,?_⟩
    refine⟨v2a,?_,?_,?_,?_,?_⟩
    all_goals first|rfl|(simp only[w,seval,-Int.reduceToNat,Za]<;>rfl)
   ·cases hh
    try simp only[w,seval,-Int.reduceToNat,Za]
    rw[al]
    refine⟨_,rfl,?_⟩
    refine⟨v2a,?_,?_,?_,?_,?_⟩
    all_goals first|rfl|(simp only[w,seval,-Int.reduceToNat,Za]<;>rfl)
 ·rintro x t H e hx
  rcases o6 with _|ra
  ·dsimp only at hx hh
   obtain⟨rfl,⟨v2ax,Zax⟩⟩:=hx
   cases hh
   try simp only[w,seval,-Int.reduceToNat,Zax]
  ·dsimp only at hx hh
   obtain⟨rfl,hE⟩:=hx
   cases hh
   try simp only[bq,bc,bC,cP,cO]
   exact hE
theorem MT:bN Tryz.prog 10 xN:=bN.of (mode := .clean) tok bT.none mixed Tryz.func10 (by kernel_rfl) ⟨by kernel_rfl,by kernel_rfl⟩ (fun _=>Nat.le_of_ble_eq_true (by kernel_rfl)) (fun x r h=>Qf x.1 x.2 r h)
noncomputable def xJ:=eB (dR (cR mz) (dK (aI .i64))) (fun x:ba×Int=>pb x.1 x.2) (fun r:Bool =>.clean (.bool r))
theorem FR (p0_0:Int) (p0_1:(List Int)) (p0_2:Int) (p0_3:(List Int)) (p1:Int):xJ none [.agg [.int .i64 p0_0,.sl false false p0_1.length (ab (eI .i64) p0_1),.int .i64 p0_2,.sl false false p0_3.length (ab (eI .i64) p0_3)],.int .i64 p1]=(pb (ba.mk (az.mk p0_0 p0_1) (az.mk p0_2 p0_3)) p1).map fun r:Bool=>(.clean (.bool r),none):=aJ _ _ _ ((ba.mk (az.mk p0_0 p0_1) (az.mk p0_2 p0_3)),p1)
theorem Qb (p0:ba) (p1:Int) (r:Bool) (hh:pb p0 p1=some r):aS .clean tab aU FU Tryz.f56 none [.agg [.int .i64 p0.cz.aj,.sl false false p0.cz.aa.length (ab (eI .i64) p0.cz.aa),.int .i64 p0.cw.aj,.sl false false p0.cw.aa.length (ab (eI .i64) p0.cw.aa)],.int .i64 p1]=some (.clean (.bool r),none):=by
 refine aw rfl Tryz.ntmps56 Tryz.results56 ?_
 unfold pb at hh
 try simp only[w,seval,-Int.reduceToNat]
 refine sp bk hh (fun _ hh =>?_) (fun _ hh =>?_)
 ·cases hh
  try simp only[w,seval,-Int.reduceToNat]
 ·cases hh
  try simp only[w,seval,-Int.reduceToNat]
theorem MP:bN Tryz.prog 56 xJ:=bN.of (mode := .clean) tok bT.none mixed Tryz.func56 (by kernel_rfl) ⟨by kernel_rfl,by kernel_rfl⟩ (fun _=>Nat.le_of_ble_eq_true (by kernel_rfl)) (fun x r h=>Qb x.1 x.2 r h)
noncomputable def xM:=eB (dR (cR mA) (dK (aI .i64))) (fun x:ew×Int=>qW x.1 x.2) (fun r:Bool =>.clean (.bool r))
theorem FW (p0_0:Int) (p0_1:(List Int)) (p0_2:Int) (p0_3:(List Int)) (p0_4:Int) (p0_5:(List Int)) (p0_6:Int) (p0_7:(List Int)) (p1:Int):xM none [.agg [.int .i64 p0_0,.sl false false p0_1.length (ab (eI .i64) p0_1),.int .i64 p0_2,.sl false false p0_3.length (ab (eI .i64) p0_3),.int .i64 p0_4,.sl false false p0_5.length (ab (eI .i64) p0_5),.int .i64 p0_6,.sl false false p0_7.length (ab (eI .i64) p0_7)],.int .i64 p1]=(qW (ew.mk (ba.mk (az.mk p0_0 p0_1) (az.mk p0_2 p0_3)) (ba.mk (az.mk p0_4 p0_5) (az.mk p0_6 p0_7))) p1).map fun r:Bool=>(.clean (.bool r),none):=aJ _ _ _ ((ew.mk (ba.mk (az.mk p0_0 p0_1) (az.mk p0_2 p0_3)) (ba.mk (az.mk p0_4 p0_5) (az.mk p0_6 p0_7))),p1)
noncomputable def ug:Env:=(Am.ext aU 56 false xJ)
theorem Mi:bT Tryz.prog ug:=(bT.none.add MP false)
theorem yJ:type_of% (ai @w<|ai @FR<|@ug.eq_1):=⟨@w,@FR,@ug.eq_1⟩
theorem Qe (p0:ew) (p1:Int) (r:Bool) (hh:qW p0 p1=some r):aS .clean tab ug FU Tryz.f29 none [.agg [.int .i64 p0.bB.cz.aj,.sl false false p0.bB.cz.aa.length (ab (eI .i64) p0.bB.cz.aa),.int .i64 p0.bB.cw.aj,.sl false false p0.bB.cw.aa.length (ab (eI .i64) p0.bB.cw.aa),.int .i64 p0.aV.cz.aj,.sl false false p0.aV.cz.aa.length (ab (eI .i64) p0.aV.cz.aa),.int .i64 p0.aV.cw.aj,.sl false false p0.aV.cw.aa.length (ab (eI .i64) p0.aV.cw.aa)],.int .i64 p1]=some (.clean (.bool r),none):=by
 refine aw rfl Tryz.ntmps29 Tryz.results29 ?_
 unfold qW at hh
 obtain⟨r1,hr1,hh⟩:=ae hh
 try simp only[yJ,seval,-Int.reduceToNat,hr1]
 refine sp bk hh (fun _ hh =>?_) (fun _ hh =>?_)
 ·obtain⟨r3,hr3,hh⟩:=ae hh
  cases hh
  try simp only[yJ,seval,-Int.reduceToNat,hr1,hr3]
 ·cases hh
  try simp only[yJ,seval,-Int.reduceToNat,hr1]
theorem MS:bN Tryz.prog 29 xM:=bN.of (mode := .clean) tok Mi mixed Tryz.func29 (by kernel_rfl) ⟨by kernel_rfl,by kernel_rfl⟩ (fun _=>Nat.le_of_ble_eq_true (by kernel_rfl)) (fun x r h=>Qe x.1 x.2 r h)
noncomputable def xP:=eB (dR (iG bt) (dK (iG aW))) (fun x:(List aC)×(List aG)=>rf x.1 x.2) (fun r:Bool =>.clean (.bool r))
theorem yy (p0:(List aC)) (p1:(List aG)):xP none [.sl false false p0.length (ab bt p0),.sl false false p1.length (ab aW p1)]=(rf p0 p1).map fun r:Bool=>(.clean (.bool r),none):=aJ _ _ _ (p0,p1)
noncomputable def uh:Env:=(Am.ext aU 29 false xM)
theorem Mj:bT Tryz.prog uh:=(bT.none.add MS false)
theorem bu:type_of% (ai @w<|ai @FW<|@uh.eq_1):=⟨@w,@FW,@uh.eq_1⟩
theorem Qh (p0:(List aC)) (p1:(List aG)) (r:Bool) (hh:rf p0 p1=some r):aS .clean tab uh FU Tryz.f11 none [.sl false false p0.length (ab bt p0),.sl false false p1.length (ab aW p1)]=some (.clean (.bool r),none):=by
 refine aw rfl Tryz.ntmps11 Tryz.results11 ?_
 unfold rf at hh
 try simp only[bu,seval,-Int.reduceToNat]
 obtain⟨o7,ho7,hh⟩:=ae hh
 refine aB (fun s t H e=>match s with|s5a=>t 0=.sl false false p0.length (ab bt p0)∧t 1=.sl false false p1.length (ab aW p1)∧t 5=.int .i64 s5a) (fun o x t H e=>match o with|(.inl _)=>x=.exit 0∧t 0=.sl false false p0.length (ab bt p0)∧t 1=.sl false false p1.length (ab aW p1)|(.inr r)=>x=.ret∧gj .clean tab none [.tmp 4] ⟨t,H,e⟩=some (.clean (.bool r),none)) ho7 ?_ ?_ ?_
 ·refine⟨?_,?_,?_⟩
  all_goals first|rfl|(simp only[bu,seval,-Int.reduceToNat]<;>rfl)
 ·rintro s5a t H e Za c hh
  simp only[rh]at hh
  try simp only[bu,seval,-Int.reduceToNat,Za]
  obtain⟨o8,ho8,hh⟩:=ae hh
  refine bH 0 (fun s t H e=>match s with|s14j3=>t 0=.sl false false p0.length (ab bt p0)∧t 1=.sl false false p1.length (ab aW p1)∧t 5=.int .i64 s5a∧t 14=.bool s14j3) (fun s=>s=o8) ?_ ?_
  ·rintro s14j3 t H e Zj3 rfl
   try dsimp only at hh
   try simp only[bu,seval,-Int.reduceToNat,Zj3]
   refine sp an hh (fun _ hh =>?_) (fun _ hh =>?_)
   ·obtain⟨x10,hx10,hh⟩:=ae hh
    have ax10:=bF bt hx10
    simp only[bU]at ax10
    try simp only[bu,seval,-Int.reduceToNat,Zj3,ax10]
    refine sp aR hh (fun _ hh =>?_) (fun _ hh =>?_)
    ·cases hh
     try simp only[bu,seval,-Int.reduceToNat,Zj3,ax10]
     refine ti ⟨rfl,?_⟩
     try simp only[bu,seval,-Int.reduceToNat,Zj3,ax10]
    ·have ax10:=bF bt hx10
     simp only[bU]at ax10
     try simp only[bu,seval,-Int.reduceToNat,Zj3,ax10,ax10]
     refine sp an hh (fun _ hh =>?_) (fun _ hh =>?_)
     ·cases hh
      try simp only[bu,seval,-Int.reduceToNat,Zj3,ax10,ax10]
      refine ti ⟨rfl,?_⟩
      try simp only[bu,seval,-Int.reduceToNat,Zj3,ax10,ax10]
     ·cases hh
      try simp only[bu,seval,-Int.reduceToNat,Zj3,ax10,ax10]
      refine iS ?_
      refine⟨?_,?_,?_⟩
      all_goals first|rfl|(simp only[bu,seval,-Int.reduceToNat,Zj3,ax10,ax10]<;>rfl)
   ·cases hh
    try simp only[bu,seval,-Int.reduceToNat,Zj3]
    refine ki ?_
    refine⟨rfl,⟨?_,?_⟩⟩
    all_goals first|rfl|(simp only[bu,seval,-Int.reduceToNat,Zj3]<;>rfl)
  ·clear hh
   have hh:=ho8
   try simp only[bu,seval,-Int.reduceToNat,Za]
   refine sp bk hh (fun _ hh =>?_) (fun _ hh =>?_)
   ·cases hh
    try simp only[bu,seval,-Int.reduceToNat,Za]
    rw[al]
    refine⟨_,rfl,?_⟩
    refine⟨?_,?_,?_,?_⟩
    all_goals first|rfl|(simp only[bu,seval,-Int.reduceToNat,Za]<;>rfl)
   ·cases hh
    try simp only[bu,seval,-Int.reduceToNat,Za]
    rw[al]
    refine⟨_,rfl,?_⟩
    refine⟨?_,?_,?_,?_⟩
    all_goals first|rfl|(simp only[bu,seval,-Int.reduceToNat,Za]<;>rfl)
 ·rintro x t H e hx
  rcases o7 with _|ra
  ·dsimp only at hx hh
   obtain⟨rfl,Zax⟩:=hx
   try simp only[bu,seval,-Int.reduceToNat,Zax]
   obtain⟨o20,ho20,hh⟩:=ae hh
   refine aB (fun s t H e=>match s with|s6d=>t 0=.sl false false p0.length (ab bt p0)∧t 1=.sl false false p1.length (ab aW p1)∧t 6=.int .i64 s6d) (fun o x t H e=>match o with|(.inl _)=>x=.exit 2∧t 0=.sl false false p0.length (ab bt p0)∧t 1=.sl false false p1.length (ab aW p1)|(.inr r)=>x=.ret∧gj .clean tab none [.tmp 4] ⟨t,H,e⟩=some (.clean (.bool r),none)) ho20 ?_ ?_ ?_
   ·refine⟨?_,?_,?_⟩
    all_goals first|rfl|(simp only[bu,seval,-Int.reduceToNat,Zax]<;>rfl)
   ·rintro s6d t H e Zd c hh
    simp only[ri]at hh
    try simp only[bu,seval,-Int.reduceToNat,Zd]
    obtain⟨o21,ho21,hh⟩:=ae hh
    refine bH 0 (fun s t H e=>match s with|s40j6=>t 0=.sl false false p0.length (ab bt p0)∧t 1=.sl false false p1.length (ab aW p1)∧t 6=.int .i64 s6d∧t 40=.bool s40j6) (fun s=>s=o21) ?_ ?_
    ·rintro s40j6 t H e Zj6 rfl
     try dsimp only at hh
     try simp only[bu,seval,-Int.reduceToNat,Zj6]
     refine sp an hh (fun _ hh =>?_) (fun _ hh =>?_)
     ·obtain⟨x23,hx23,hh⟩:=ae hh
      have ax23:=bF aW hx23
      simp only[bU]at ax23
      obtain⟨r24,hr24,hh⟩:=ae hh
      try simp only[bu,seval,-Int.reduceToNat,Zj6,ax23,hr24]
      refine sp an hh (fun _ hh =>?_) (fun _ hh =>?_)
      ·cases hh
       try simp only[bu,seval,-Int.reduceToNat,Zj6,ax23,hr24]
       refine ti ⟨rfl,?_⟩
       try simp only[bu,seval,-Int.reduceToNat,Zj6,ax23,hr24]
      ·cases hh
       try simp only[bu,seval,-Int.reduceToNat,Zj6,ax23,hr24]
       refine iS ?_
       refine⟨?_,?_,?_⟩
       all_goals first|rfl|(simp only[bu,seval,-Int.reduceToNat,Zj6,ax23,hr24]<;>rfl)
     ·cases hh
      try simp only[bu,seval,-Int.reduceToNat,Zj6]
      refine ki ?_
      refine⟨rfl,⟨?_,?_⟩⟩
      all_goals first|rfl|(simp only[bu,seval,-Int.reduceToNat,Zj6]<;>rfl)
    ·clear hh
     have hh:=ho21
     try simp only[bu,seval,-Int.reduceToNat,Zd]
     refine sp bk hh (fun _ hh =>?_) (fun _ hh =>?_)
     ·cases hh
      try simp only[bu,seval,-Int.reduceToNat,Zd]
      rw[al]
      refine⟨_,rfl,?_⟩
      refine⟨?_,?_,?_,?_⟩
      all_goals first|rfl|(simp only[bu,seval,-Int.reduceToNat,Zd]<;>rfl)
     ·cases hh
      try simp only[bu,seval,-Int.reduceToNat,Zd]
      rw[al]
      refine⟨_,rfl,?_⟩
      refine⟨?_,?_,?_,?_⟩
      all_goals first|rfl|(simp only[bu,seval,-Int.reduceToNat,Zd]<;>rfl)
   ·rintro x t H e hx
    rcases o20 with _|rd
    ·dsimp only at hx hh
     obtain⟨rfl,Zdx⟩:=hx
     try simp only[bu,seval,-Int.reduceToNat,Zdx]
     refine sp bk hh (fun _ hh =>?_) (fun _ hh =>?_)
     ·cases hh
      try simp only[bu,seval,-Int.reduceToNat,Zdx]
     ·cases hh
      try simp only[bu,seval,-Int.reduceToNat,Zdx]
    ·dsimp only at hx hh
     obtain⟨rfl,hE⟩:=hx
     cases hh
     try simp only[bq,bc,bC,cP,cO]
     exact hE
  ·dsimp only at hx hh
   obtain⟨rfl,hE⟩:=hx
   cases hh
   try simp only[bq,bc,bC,cP,cO]
   exact hE
theorem MV:bN Tryz.prog 11 xP:=bN.of (mode := .clean) tok Mj mixed Tryz.func11 (by kernel_rfl) ⟨by kernel_rfl,by kernel_rfl⟩ (fun _=>Nat.le_of_ble_eq_true (by kernel_rfl)) (fun x r h=>Qh x.1 x.2 r h)
noncomputable def sn:=eB (dK (cR aq)) (fun x:ak=>lA x) (fun r:Bool =>.clean (.bool r))
theorem zp (p0_0:ByteArray) (p0_1:Int) (p0_2:Int) (p0_3:Int) (p0_4:Int):sn none [.agg [.str p0_0,.int .i64 p0_1,.int .i64 p0_2,.int .i64 p0_3,.int .i64 p0_4]]=(lA (ak.mk p0_0 p0_1 p0_2 p0_3 p0_4)).map fun r:Bool=>(.clean (.bool r),none):=aJ _ _ _ ((ak.mk p0_0 p0_1 p0_2 p0_3 p0_4))
theorem Ke (p0:ak) (r:Bool) (hh:lA p0=some r):aS .clean tab aU FU Tryz.f110 none [.agg [.str p0.bE,.int .i64 p0.ay,.int .i64 p0.aA,.int .i64 p0.aY,.int .i64 p0.aQ]]=some (.clean (.bool r),none):=by
 refine aw rfl Tryz.ntmps110 Tryz.results110 ?_
 unfold lA at hh
 try simp only[w,seval,-Int.reduceToNat]
 refine sp bk hh (fun _ hh =>?_) (fun _ hh =>?_)
 ·cases hh
  try simp only[w,seval,-Int.reduceToNat]
 ·cases hh
  try simp only[w,seval,-Int.reduceToNat]
theorem Ht:bN Tryz.prog 110 sn:=bN.of (mode := .clean) tok bT.none mixed Tryz.func110 (by kernel_rfl) ⟨by kernel_rfl,by kernel_rfl⟩ (fun _=>Nat.le_of_ble_eq_true (by kernel_rfl)) (fun x r h=>Ke x r h)
noncomputable def wa:=eB (dR (aI .i64) (dR (aI .i64) (dK (aI .i64)))) (fun x:Int×Int×Int=>qZ x.1 x.2.1 x.2.2) (fun r:Bool =>.clean (.bool r))
theorem xd (p0:Int) (p1:Int) (p2:Int):wa none [.int .i64 p0,.int .i64 p1,.int .i64 p2]=(qZ p0 p1 p2).map fun r:Bool=>(.clean (.bool r),none):=aJ _ _ _ (p0,p1,p2)
theorem Ss (p0:Int) (p1:Int) (p2:Int) (r:Bool) (hh:qZ p0 p1 p2=some r):aS .clean tab aU FU Tryz.f77 none [.int .i64 p0,.int .i64 p1,.int .i64 p2]=some (.clean (.bool r),none):=by
 refine aw rfl Tryz.ntmps77 Tryz.results77 ?_
 unfold qZ at hh
 try simp only[w,seval,-Int.reduceToNat]
 refine sp bk hh (fun _ hh =>?_) (fun _ hh =>?_)
 ·cases hh
  try simp only[w,seval,-Int.reduceToNat]
 ·cases hh
  try simp only[w,seval,-Int.reduceToNat]
theorem FD:bN Tryz.prog 77 wa:=bN.of (mode := .clean) tok bT.none mixed Tryz.func77 (by kernel_rfl) ⟨by kernel_rfl,by kernel_rfl⟩ (fun _=>Nat.le_of_ble_eq_true (by kernel_rfl)) (fun x r h=>Ss x.1 x.2.1 x.2.2 r h)
noncomputable def vF:=eB (dK (cR aq)) (fun x:ak=>od x) (fun r:Bool =>.clean (.bool r))
theorem CE (p0_0:ByteArray) (p0_1:Int) (p0_2:Int) (p0_3:Int) (p0_4:Int):vF none [.agg [.str p0_0,.int .i64 p0_1,.int .i64 p0_2,.int .i64 p0_3,.int .i64 p0_4]]=(od (ak.mk p0_0 p0_1 p0_2 p0_3 p0_4)).map fun r:Bool=>(.clean (.bool r),none):=aJ _ _ _ ((ak.mk p0_0 p0_1 p0_2 p0_3 p0_4))
noncomputable def qK:Env:=(Am.ext (Am.ext aU 77 false wa) 110 false sn)
theorem Jv:bT Tryz.prog qK:=((bT.none.add FD false).add Ht false)
theorem jV:type_of% (ai @w<|ai @xd<|ai @zp<|@qK.eq_1):=⟨@w,@xd,@zp,@qK.eq_1⟩
theorem MD (p0:ak) (r:Bool) (hh:od p0=some r):aS .clean tab qK FU Tryz.f76 none [.agg [.str p0.bE,.int .i64 p0.ay,.int .i64 p0.aA,.int .i64 p0.aY,.int .i64 p0.aQ]]=some (.clean (.bool r),none):=by
 refine aw rfl Tryz.ntmps76 Tryz.results76 ?_
 unfold od at hh
 obtain⟨r1,hr1,hh⟩:=ae hh
 try simp only[jV,seval,-Int.reduceToNat,hr1]
 refine sp bk hh (fun _ hh =>?_) (fun _ hh =>?_)
 ·try simp only[jV,seval,-Int.reduceToNat,hr1]
  refine sp bk hh (fun _ hh =>?_) (fun _ hh =>?_)
  ·obtain⟨r4,hr4,hh⟩:=ae hh
   try simp only[jV,seval,-Int.reduceToNat,hr1,hr4]
   refine sp bk hh (fun _ hh =>?_) (fun _ hh =>?_)
   ·obtain⟨r6,hr6,hh⟩:=ae hh
    cases hh
    try simp only[jV,seval,-Int.reduceToNat,hr1,hr4,hr6]
   ·cases hh
    try simp only[jV,seval,-Int.reduceToNat,hr1,hr4]
  ·cases hh
   try simp only[jV,seval,-Int.reduceToNat,hr1]
 ·cases hh
  try simp only[jV,seval,-Int.reduceToNat,hr1]
theorem KK:bN Tryz.prog 76 vF:=bN.of (mode := .clean) tok Jv mixed Tryz.func76 (by kernel_rfl) ⟨by kernel_rfl,by kernel_rfl⟩ (fun _=>Nat.le_of_ble_eq_true (by kernel_rfl)) (fun x r h=>MD x r h)
noncomputable def so:=eB (dK (cR dx)) (fun x:av=>j9 x) (fun r:Bool =>.clean (.bool r))
theorem zq (p0_0:(List ak)):so none [.agg [.sl false false p0_0.length (ab aq p0_0)]]=(j9 (av.mk p0_0)).map fun r:Bool=>(.clean (.bool r),none):=aJ _ _ _ ((av.mk p0_0))
noncomputable def oJ:Env:=(Am.ext (Am.ext aU 76 false vF) 77 false wa)
theorem GV:bT Tryz.prog oJ:=((bT.none.add KK false).add FD false)
theorem aX:type_of% (ai @w<|ai @CE<|ai @xd<|@oJ.eq_1):=⟨@w,@CE,@xd,@oJ.eq_1⟩
theorem Kf (p0:av) (r:Bool) (hh:j9 p0=some r):aS .clean tab oJ FU Tryz.f44 none [.agg [.sl false false p0.ag.length (ab aq p0.ag)]]=some (.clean (.bool r),none):=by
 refine aw rfl Tryz.ntmps44 Tryz.results44 ?_
 unfold j9 at hh
 try simp only[aX,seval,-Int.reduceToNat]
 refine sp an hh (fun _ hh =>?_) (fun _ hh =>?_)
 ·cases hh
  try simp only[aX,seval,-Int.reduceToNat]
 ·try simp only[aX,seval,-Int.reduceToNat]
  obtain⟨o18,ho18,hh⟩:=ae hh
  refine aB (fun s t H e=>match s with|s3a=>∃v1a:Nat,t 1=.ptr 1 v1a 0∧t 3=.int .i64 s3a∧H 1=some ⟨v1a,24,[.sl false false p0.ag.length (ab aq p0.ag)],false,false,false⟩) (fun o x t H e=>match o with|(.inl _)=>x=.exit 0|(.inr r)=>x=.ret∧gj .clean tab none [.tmp 2] ⟨t,H,e⟩=some (.clean (.bool r),none)) ho18 ?_ ?_ ?_
  ·refine⟨0,?_,?_,?_⟩
   all_goals first|rfl|(simp only[aX,seval,-Int.reduceToNat]<;>rfl)
  ·rintro s3a t H e ⟨v1a,Za⟩ c hh
   simp only[kO]at hh
   try simp only[aX,seval,-Int.reduceToNat,Za]
   refine sp an hh (fun _ hh =>?_) (fun _ hh =>?_)
   ·obtain⟨x20,hx20,hh⟩:=ae hh
    have ax20:=bF aq hx20
    simp only[bU]at ax20
    obtain⟨r21,hr21,hh⟩:=ae hh
    try simp only[aX,seval,-Int.reduceToNat,Za,ax20,hr21]
    refine sp an hh (fun _ hh =>?_) (fun _ hh =>?_)
    ·cases hh
     try simp only[aX,seval,-Int.reduceToNat,Za,ax20,hr21]
     refine iS ?_
     refine⟨v1a,?_,?_,?_⟩
     all_goals first|rfl|(simp only[aX,seval,-Int.reduceToNat,Za,ax20,hr21]<;>rfl)
    ·try simp only[aX,seval,-Int.reduceToNat,Za,ax20,hr21]
     obtain⟨o23,ho23,hh⟩:=ae hh
     refine bH 0 (fun s t H e=>match s with|s43j3=>∃v1j3:Nat,∃v4j3:Nat,t 1=.ptr 1 v1j3 0∧t 3=.int .i64 s3a∧t 4=.ptr 4 v4j3 0∧t 43=.bool s43j3∧H 1=some ⟨v1j3,24,[.sl false false p0.ag.length (ab aq p0.ag)],false,false,false⟩∧H 4=some ⟨v4j3,87,[.str x20.bE,.int .i64 x20.ay,.int .i64 x20.aA,.int .i64 x20.aY,.int .i64 x20.aQ],false,false,false⟩) (fun s=>s=o23) ?_ ?_
     ·rintro s43j3 t H e ⟨v1j3,v4j3,Zj3⟩ rfl
      try dsimp only at hh
      try simp only[aX,seval,-Int.reduceToNat,ax20,hr21,Zj3]
      refine sp an hh (fun _ hh =>?_) (fun _ hh =>?_)
      ·cases hh
       try simp only[aX,seval,-Int.reduceToNat,ax20,hr21,Zj3]
       refine ti ⟨rfl,?_⟩
       try simp only[aX,seval,-Int.reduceToNat,ax20,hr21,Zj3]
      ·obtain⟨x25,hx25,hh⟩:=ae hh
       have ax25:=bF aq hx25
       simp only[bU]at ax25
       obtain⟨x26,hx26,hh⟩:=ae hh
       have ax26:=bF aq hx26
       simp only[bU]at ax26
       try simp only[aX,seval,-Int.reduceToNat,ax20,hr21,Zj3,ax25,ax26]
       refine sp aR hh (fun _ hh =>?_) (fun _ hh =>?_)
       ·cases hh
        try simp only[aX,seval,-Int.reduceToNat,ax20,hr21,Zj3,ax25,ax26]
        refine ti ⟨rfl,?_⟩
        try simp only[aX,seval,-Int.reduceToNat,ax20,hr21,Zj3,ax25,ax26]
       ·try simp only[aX,seval,-Int.reduceToNat,ax20,hr21,Zj3,ax25,ax26]
        refine sp aR hh (fun _ hh =>?_) (fun _ hh =>?_)
        ·cases hh
         try simp only[aX,seval,-Int.reduceToNat,ax20,hr21,Zj3,ax25,ax26]
         refine ti ⟨rfl,?_⟩
         try simp only[aX,seval,-Int.reduceToNat,ax20,hr21,Zj3,ax25,ax26]
        ·try simp only[aX,seval,-Int.reduceToNat,ax20,hr21,Zj3,ax25,ax26]
         refine sp aR hh (fun _ hh =>?_) (fun _ hh =>?_)
         ·cases hh
          try simp only[aX,seval,-Int.reduceToNat,ax20,hr21,Zj3,ax25,ax26]
          refine ti ⟨rfl,?_⟩
          try simp only[aX,seval,-Int.reduceToNat,ax20,hr21,Zj3,ax25,ax26]
         ·try simp only[aX,seval,-Int.reduceToNat,ax20,hr21,Zj3,ax25,ax26]
          refine sp an hh (fun _ hh =>?_) (fun _ hh =>?_)
          ·cases hh
           try simp only[aX,seval,-Int.reduceToNat,ax20,hr21,Zj3,ax25,ax26]
           refine ti ⟨rfl,?_⟩
           try simp only[aX,seval,-Int.reduceToNat,ax20,hr21,Zj3,ax25,ax26]
          ·cases hh
           try simp only[aX,seval,-Int.reduceToNat,ax20,hr21,Zj3,ax25,ax26]
           refine iS ?_
           refine⟨v1j3,?_,?_,?_⟩
           all_goals first|rfl|(simp only[aX,seval,-Int.reduceToNat,ax20,hr21,Zj3,ax25,ax26]<;>rfl)
     ·clear hh
      have hh:=ho23
      try simp only[aX,seval,-Int.reduceToNat,Za,ax20,hr21]
      refine sp aR hh (fun _ hh =>?_) (fun _ hh =>?_)
      ·cases hh
       try simp only[aX,seval,-Int.reduceToNat,Za,ax20,hr21]
       rw[al]
       refine⟨_,rfl,?_⟩
       refine⟨v1a,e+1,?_,?_,?_,?_,?_,?_⟩
       all_goals first|rfl|(simp only[aX,seval,-Int.reduceToNat,Za,ax20,hr21]<;>rfl)
      ·obtain⟨r32,hr32,hh⟩:=ae hh
       try simp only[aX,seval,-Int.reduceToNat,Za,ax20,hr21,hr32]
       refine sp aR hh (fun _ hh =>?_) (fun _ hh =>?_)
       ·cases hh
        try simp only[aX,seval,-Int.reduceToNat,Za,ax20,hr21,hr32]
        rw[al]
        refine⟨_,rfl,?_⟩
        refine⟨v1a,e+1,?_,?_,?_,?_,?_,?_⟩
        all_goals first|rfl|(simp only[aX,seval,-Int.reduceToNat,Za,ax20,hr21,hr32]<;>rfl)
       ·obtain⟨r34,hr34,hh⟩:=ae hh
        cases hh
        try simp only[aX,seval,-Int.reduceToNat,Za,ax20,hr21,hr32,hr34]
        rw[al]
        refine⟨_,rfl,?_⟩
        refine⟨v1a,e+1,?_,?_,?_,?_,?_,?_⟩
        all_goals first|rfl|(simp only[aX,seval,-Int.reduceToNat,Za,ax20,hr21,hr32,hr34]<;>rfl)
   ·cases hh
    try simp only[aX,seval,-Int.reduceToNat,Za]
    refine ki ?_
    exact rfl
  ·rintro x t H e hx
   rcases o18 with _|ra
   ·dsimp only at hx hh
    subst hx
    cases hh
    try simp only[aX,seval,-Int.reduceToNat]
   ·dsimp only at hx hh
    obtain⟨rfl,hE⟩:=hx
    cases hh
    try simp only[bq,bc,bC,cP,cO]
    exact hE
theorem Hu:bN Tryz.prog 44 so:=bN.of (mode := .clean) tok GV mixed Tryz.func44 (by kernel_rfl) ⟨by kernel_rfl,by kernel_rfl⟩ (fun _=>Nat.le_of_ble_eq_true (by kernel_rfl)) (fun x r h=>Kf x r h)
noncomputable def AH:=eB (dR (cR dx) (dK (aI .i64))) (fun x:av×Int=>yz x.1 x.2) (fun r:Bool =>.clean (.bool r))
theorem KU (p0_0:(List ak)) (p1:Int):AH none [.agg [.sl false false p0_0.length (ab aq p0_0)],.int .i64 p1]=(yz (av.mk p0_0) p1).map fun r:Bool=>(.clean (.bool r),none):=aJ _ _ _ ((av.mk p0_0),p1)
theorem Su (p0:av) (p1:Int) (r:Bool) (hh:yz p0 p1=some r):aS .clean tab aU FU Tryz.f60 none [.agg [.sl false false p0.ag.length (ab aq p0.ag)],.int .i64 p1]=some (.clean (.bool r),none):=by
 refine aw rfl Tryz.ntmps60 Tryz.results60 ?_
 unfold yz at hh
 try simp only[w,seval,-Int.reduceToNat]
 refine sp bk hh (fun _ hh =>?_) (fun _ hh =>?_)
 ·cases hh
  try simp only[w,seval,-Int.reduceToNat]
 ·cases hh
  try simp only[w,seval,-Int.reduceToNat]
theorem Qp:bN Tryz.prog 60 AH:=bN.of (mode := .clean) tok bT.none mixed Tryz.func60 (by kernel_rfl) ⟨by kernel_rfl,by kernel_rfl⟩ (fun _=>Nat.le_of_ble_eq_true (by kernel_rfl)) (fun x r h=>Su x.1 x.2 r h)
noncomputable def sq:=eB (dR (cR dx) (dK (iG (eI .i64)))) (fun x:av×(List Int)=>lB x.1 x.2) (fun r:Bool =>.clean (.bool r))
theorem zr (p0_0:(List ak)) (p1:(List Int)):sq none [.agg [.sl false false p0_0.length (ab aq p0_0)],.sl false false p1.length (ab (eI .i64) p1)]=(lB (av.mk p0_0) p1).map fun r:Bool=>(.clean (.bool r),none):=aJ _ _ _ ((av.mk p0_0),p1)
noncomputable def oK:Env:=(Am.ext (Am.ext aU 44 false so) 60 false AH)
theorem GW:bT Tryz.prog oK:=((bT.none.add Hu false).add Qp false)
theorem bp:type_of% (ai @w<|ai @zq<|ai @KU<|@oK.eq_1):=⟨@w,@zq,@KU,@oK.eq_1⟩
theorem Kg (p0:av) (p1:(List Int)) (r:Bool) (hh:lB p0 p1=some r):aS .clean tab oK FU Tryz.f34 none [.agg [.sl false false p0.ag.length (ab aq p0.ag)],.sl false false p1.length (ab (eI .i64) p1)]=some (.clean (.bool r),none):=by
 refine aw rfl Tryz.ntmps34 Tryz.results34 ?_
 unfold lB at hh
 obtain⟨r1,hr1,hh⟩:=ae hh
 try simp only[bp,seval,-Int.reduceToNat,hr1]
 obtain⟨o2,ho2,hh⟩:=ae hh
 refine bH 0 (fun s t H e=>match s with|s14j1=>∃v2j1:Nat,t 1=.sl false false p1.length (ab (eI .i64) p1)∧t 2=.ptr 2 v2j1 0∧t 14=.bool s14j1∧H 2=some ⟨v2j1,24,[.sl false false p0.ag.length (ab aq p0.ag)],false,false,false⟩) (fun s=>s=o2) ?_ ?_
 ·rintro s14j1 t H e ⟨v2j1,Zj1⟩ rfl
  try dsimp only at hh
  try simp only[bp,seval,-Int.reduceToNat,hr1,Zj1]
  refine sp an hh (fun _ hh =>?_) (fun _ hh =>?_)
  ·cases hh
   try simp only[bp,seval,-Int.reduceToNat,hr1,Zj1]
  ·try simp only[bp,seval,-Int.reduceToNat,hr1,Zj1]
   obtain⟨o13,ho13,hh⟩:=ae hh
   refine aB (fun s t H e=>match s with|s5b=>∃v2b:Nat,t 1=.sl false false p1.length (ab (eI .i64) p1)∧t 2=.ptr 2 v2b 0∧t 5=.int .i64 s5b∧H 2=some ⟨v2b,24,[.sl false false p0.ag.length (ab aq p0.ag)],false,false,false⟩) (fun o x t H e=>match o with|(.inl _)=>x=.exit 0|(.inr r)=>x=.ret∧gj .clean tab none [.tmp 4] ⟨t,H,e⟩=some (.clean (.bool r),none)) ho13 ?_ ?_ ?_
   ·refine⟨v2j1,?_,?_,?_,?_⟩
    all_goals first|rfl|(simp only[bp,seval,-Int.reduceToNat,hr1,Zj1]<;>rfl)
   ·rintro s5b t H e ⟨v2b,Zb⟩ c hh
    simp only[nA]at hh
    try simp only[bp,seval,-Int.reduceToNat,hr1,Zb]
    refine sp an hh (fun _ hh =>?_) (fun _ hh =>?_)
    ·obtain⟨x15,hx15,hh⟩:=ae hh
     have ax15:=bF (eI .i64) hx15
     simp only[bU]at ax15
     obtain⟨r16,hr16,hh⟩:=ae hh
     try simp only[bp,seval,-Int.reduceToNat,hr1,Zb,ax15,hr16]
     refine bX (by kernel_rfl) ?_
     try simp only[bp,seval,-Int.reduceToNat,hr1,Zb,ax15,hr16]
     refine sp an hh (fun _ hh =>?_) (fun _ hh =>?_)
     ·cases hh
      try simp only[bp,seval,-Int.reduceToNat,hr1,Zb,ax15,hr16]
      refine ti ⟨rfl,?_⟩
      try simp only[bp,seval,-Int.reduceToNat,hr1,Zb,ax15,hr16]
     ·try simp only[bp,seval,-Int.reduceToNat,hr1,Zb,ax15,hr16]
      refine sp an hh (fun _ hh =>?_) (fun _ hh =>?_)
      ·obtain⟨x19,hx19,hh⟩:=ae hh
       have ax19:=bF (eI .i64) hx19
       simp only[bU]at ax19
       obtain⟨x20,hx20,hh⟩:=ae hh
       have ax20:=bF aq hx20
       simp only[bU]at ax20
       try simp only[bp,seval,-Int.reduceToNat,hr1,Zb,ax15,hr16,ax19,ax20]
       refine bX (by kernel_rfl) ?_
       have ax15:=bF (eI .i64) hx15
       simp only[bU]at ax15
       try simp only[bp,seval,-Int.reduceToNat,hr1,Zb,ax15,hr16,ax19,ax20,ax15]
       refine sp ji hh (fun _ hh =>?_) (fun _ hh =>?_)
       ·have ax15:=bF (eI .i64) hx15
        simp only[bU]at ax15
        try simp only[bp,seval,-Int.reduceToNat,hr1,Zb,ax15,hr16,ax19,ax20,ax15,ax15]
        refine bX (by kernel_rfl) ?_
        try simp only[bp,seval,-Int.reduceToNat,hr1,Zb,ax15,hr16,ax19,ax20,ax15,ax15]
        refine sp an hh (fun _ hh =>?_) (fun _ hh =>?_)
        ·cases hh
         try simp only[bp,seval,-Int.reduceToNat,hr1,Zb,ax15,hr16,ax19,ax20,ax15,ax15]
         refine ti ⟨rfl,?_⟩
         try simp only[bp,seval,-Int.reduceToNat,hr1,Zb,ax15,hr16,ax19,ax20,ax15,ax15]
        ·cases hh
         try simp only[bp,seval,-Int.reduceToNat,hr1,Zb,ax15,hr16,ax19,ax20,ax15,ax15]
         refine iS ?_
         refine⟨v2b,?_,?_,?_,?_⟩
         all_goals first|rfl|(simp only[bp,seval,-Int.reduceToNat,hr1,Zb,ax15,hr16,ax19,ax20,ax15,ax15]<;>rfl)
       ·try simp only[bp,seval,-Int.reduceToNat,hr1,Zb,ax15,hr16,ax19,ax20,ax15]
        refine bX (by kernel_rfl) ?_
        cases hh
        try simp only[bp,seval,-Int.reduceToNat,hr1,Zb,ax15,hr16,ax19,ax20,ax15]
        refine iS ?_
        refine⟨v2b,?_,?_,?_,?_⟩
        all_goals first|rfl|(simp only[bp,seval,-Int.reduceToNat,hr1,Zb,ax15,hr16,ax19,ax20,ax15]<;>rfl)
      ·cases hh
       try simp only[bp,seval,-Int.reduceToNat,hr1,Zb,ax15,hr16]
       refine iS ?_
       refine⟨v2b,?_,?_,?_,?_⟩
       all_goals first|rfl|(simp only[bp,seval,-Int.reduceToNat,hr1,Zb,ax15,hr16]<;>rfl)
    ·cases hh
     try simp only[bp,seval,-Int.reduceToNat,hr1,Zb]
     refine ki ?_
     exact rfl
   ·rintro x t H e hx
    rcases o13 with _|rb
    ·dsimp only at hx hh
     subst hx
     cases hh
     try simp only[bp,seval,-Int.reduceToNat,hr1]
    ·dsimp only at hx hh
     obtain⟨rfl,hE⟩:=hx
     cases hh
     try simp only[bq,bc,bC,cP,cO]
     exact hE
 ·clear hh
  have hh:=ho2
  try simp only[bp,seval,-Int.reduceToNat,hr1]
  refine sp aR hh (fun _ hh =>?_) (fun _ hh =>?_)
  ·cases hh
   try simp only[bp,seval,-Int.reduceToNat,hr1]
   rw[al]
   refine⟨_,rfl,?_⟩
   refine⟨0,?_,?_,?_,?_⟩
   all_goals first|rfl|(simp only[bp,seval,-Int.reduceToNat,hr1]<;>rfl)
  ·cases hh
   try simp only[bp,seval,-Int.reduceToNat,hr1]
   rw[al]
   refine⟨_,rfl,?_⟩
   refine⟨0,?_,?_,?_,?_⟩
   all_goals first|rfl|(simp only[bp,seval,-Int.reduceToNat,hr1]<;>rfl)
theorem Hv:bN Tryz.prog 34 sq:=bN.of (mode := .clean) tok GW mixed Tryz.func34 (by kernel_rfl) ⟨by kernel_rfl,by kernel_rfl⟩ (fun _=>Nat.le_of_ble_eq_true (by kernel_rfl)) (fun x r h=>Kg x.1 x.2 r h)
noncomputable def xO:=eB (dR (iG eU) (dK (aI .i64))) (fun x:(List ByteArray)×Int=>q8 x.1 x.2) (fun r:Bool =>.clean (.bool r))
theorem FY (p0:(List ByteArray)) (p1:Int):xO none [.sl false false p0.length (ab eU p0),.int .i64 p1]=(q8 p0 p1).map fun r:Bool=>(.clean (.bool r),none):=aJ _ _ _ (p0,p1)
theorem Qg (p0:(List ByteArray)) (p1:Int) (r:Bool) (hh:q8 p0 p1=some r):aS .clean tab aU FU Tryz.f54 none [.sl false false p0.length (ab eU p0),.int .i64 p1]=some (.clean (.bool r),none):=by
 refine aw rfl Tryz.ntmps54 Tryz.results54 ?_
 unfold q8 at hh
 try simp only[w,seval,-Int.reduceToNat]
 obtain⟨o8,ho8,hh⟩:=ae hh
 refine aB (fun s t H e=>match s with|s5a=>t 0=.sl false false p0.length (ab eU p0)∧t 1=.int .i64 p1∧t 5=.int .i64 s5a) (fun o x t H e=>match o with|(.inl _)=>x=.exit 0∧t 0=.sl false false p0.length (ab eU p0)∧t 1=.int .i64 p1|(.inr r)=>x=.ret∧gj .clean tab none [.tmp 4] ⟨t,H,e⟩=some (.clean (.bool r),none)) ho8 ?_ ?_ ?_
 ·refine⟨?_,?_,?_⟩
  all_goals first|rfl|(simp only[w,seval,-Int.reduceToNat]<;>rfl)
 ·rintro s5a t H e Za c hh
  simp only[re]at hh
  try simp only[w,seval,-Int.reduceToNat,Za]
  obtain⟨o9,ho9,hh⟩:=ae hh
  refine bH 0 (fun s t H e=>match s with|s14j3=>t 0=.sl false false p0.length (ab eU p0)∧t 1=.int .i64 p1∧t 5=.int .i64 s5a∧t 14=.bool s14j3) (fun s=>s=o9) ?_ ?_
  ·rintro s14j3 t H e Zj3 rfl
   try dsimp only at hh
   try simp only[w,seval,-Int.reduceToNat,Zj3]
   refine sp an hh (fun _ hh =>?_) (fun _ hh =>?_)
   ·obtain⟨x11,hx11,hh⟩:=ae hh
    have ax11:=bF eU hx11
    simp only[bU]at ax11
    try simp only[w,seval,-Int.reduceToNat,Zj3,ax11]
    refine sp bk hh (fun _ hh =>?_) (fun _ hh =>?_)
    ·have ax11:=bF eU hx11
     simp only[bU]at ax11
     try simp only[w,seval,-Int.reduceToNat,Zj3,ax11,ax11]
     refine sp aR hh (fun _ hh =>?_) (fun _ hh =>?_)
     ·cases hh
      try simp only[w,seval,-Int.reduceToNat,Zj3,ax11,ax11]
      refine ti ⟨rfl,?_⟩
      try simp only[w,seval,-Int.reduceToNat,Zj3,ax11,ax11]
     ·have ax11:=bF eU hx11
      simp only[bU]at ax11
      try simp only[w,seval,-Int.reduceToNat,Zj3,ax11,ax11,ax11]
      refine sp an hh (fun _ hh =>?_) (fun _ hh =>?_)
      ·cases hh
       try simp only[w,seval,-Int.reduceToNat,Zj3,ax11,ax11,ax11]
       refine ti ⟨rfl,?_⟩
       try simp only[w,seval,-Int.reduceToNat,Zj3,ax11,ax11,ax11]
      ·cases hh
       try simp only[w,seval,-Int.reduceToNat,Zj3,ax11,ax11,ax11]
       refine iS ?_
       refine⟨?_,?_,?_⟩
       all_goals first|rfl|(simp only[w,seval,-Int.reduceToNat,Zj3,ax11,ax11,ax11]<;>rfl)
    ·cases hh
     try simp only[w,seval,-Int.reduceToNat,Zj3,ax11]
     refine iS ?_
     refine⟨?_,?_,?_⟩
     all_goals first|rfl|(simp only[w,seval,-Int.reduceToNat,Zj3,ax11]<;>rfl)
   ·cases hh
    try simp only[w,seval,-Int.reduceToNat,Zj3]
    refine ki ?_
    refine⟨rfl,⟨?_,?_⟩⟩
    all_goals first|rfl|(simp only[w,seval,-Int.reduceToNat,Zj3]<;>rfl)
  ·clear hh
   have hh:=ho9
   try simp only[w,seval,-Int.reduceToNat,Za]
   refine sp bk hh (fun _ hh =>?_) (fun _ hh =>?_)
   ·cases hh
    try simp only[w,seval,-Int.reduceToNat,Za]
    rw[al]
    refine⟨_,rfl,?_⟩
    refine⟨?_,?_,?_,?_⟩
    all_goals first|rfl|(simp only[w,seval,-Int.reduceToNat,Za]<;>rfl)
   ·cases hh
    try simp only[w,seval,-Int.reduceToNat,Za]
    rw[al]
    refine⟨_,rfl,?_⟩
    refine⟨?_,?_,?_,?_⟩
    all_goals first|rfl|(simp only[w,seval,-Int.reduceToNat,Za]<;>rfl)
 ·rintro x t H e hx
  rcases o8 with _|ra
  ·dsimp only at hx hh
   obtain⟨rfl,Zax⟩:=hx
   cases hh
   try simp only[w,seval,-Int.reduceToNat,Zax]
  ·dsimp only at hx hh
   obtain⟨rfl,hE⟩:=hx
   cases hh
   try simp only[bq,bc,bC,cP,cO]
   exact hE
theorem MU:bN Tryz.prog 54 xO:=bN.of (mode := .clean) tok bT.none mixed Tryz.func54 (by kernel_rfl) ⟨by kernel_rfl,by kernel_rfl⟩ (fun _=>Nat.le_of_ble_eq_true (by kernel_rfl)) (fun x r h=>Qg x.1 x.2 r h)
noncomputable def xF:=eB (dK (cR sP)) (fun x:fq=>qN x) (fun r:Bool =>.clean (.bool r))
theorem FN (p0_0:(List ByteArray)) (p0_1:(List Int)) (p0_2:(List Int)):xF none [.agg [.sl false false p0_0.length (ab eU p0_0),.sl false false p0_1.length (ab (eI .i64) p0_1),.sl false false p0_2.length (ab (eI .i64) p0_2)]]=(qN (fq.mk p0_0 p0_1 p0_2)).map fun r:Bool=>(.clean (.bool r),none):=aJ _ _ _ ((fq.mk p0_0 p0_1 p0_2))
noncomputable def ua:Env:=(Am.ext aU 54 false xO)
theorem Mc:bT Tryz.prog ua:=(bT.none.add MU false)
theorem pT:type_of% (ai @w<|ai @FY<|@ua.eq_1):=⟨@w,@FY,@ua.eq_1⟩
theorem P7 (p0:fq) (r:Bool) (hh:qN p0=some r):aS .clean tab ua FU Tryz.f26 none [.agg [.sl false false p0.aH.length (ab eU p0.aH),.sl false false p0.aP.length (ab (eI .i64) p0.aP),.sl false false p0.aO.length (ab (eI .i64) p0.aO)]]=some (.clean (.bool r),none):=by
 refine aw rfl Tryz.ntmps26 Tryz.results26 ?_
 unfold qN at hh
 obtain⟨r1,hr1,hh⟩:=ae hh
 try simp only[pT,seval,-Int.reduceToNat,hr1]
 refine sp bk hh (fun _ hh =>?_) (fun _ hh =>?_)
 ·try simp only[pT,seval,-Int.reduceToNat,hr1]
  refine sp bk hh (fun _ hh =>?_) (fun _ hh =>?_)
  ·cases hh
   try simp only[pT,seval,-Int.reduceToNat,hr1]
  ·cases hh
   try simp only[pT,seval,-Int.reduceToNat,hr1]
 ·cases hh
  try simp only[pT,seval,-Int.reduceToNat,hr1]
theorem ML:bN Tryz.prog 26 xF:=bN.of (mode := .clean) tok Mc mixed Tryz.func26 (by kernel_rfl) ⟨by kernel_rfl,by kernel_rfl⟩ (fun _=>Nat.le_of_ble_eq_true (by kernel_rfl)) (fun x r h=>P7 x r h)
noncomputable def pW:=eB (dR (cR dx) (dK (cR sP))) (fun x:av×fq=>jN x.1 x.2) (fun r:av×Int×(List Int)×Bool =>.clean (.tup [.agg [.sl false false r.1.ag.length (ab aq r.1.ag)],.int .i64 r.2.1,.sl false false r.2.2.1.length (ab (eI .i64) r.2.2.1),.bool r.2.2.2]))
theorem xc (p0_0:(List ak)) (p1_0:(List ByteArray)) (p1_1:(List Int)) (p1_2:(List Int)):pW none [.agg [.sl false false p0_0.length (ab aq p0_0)],.agg [.sl false false p1_0.length (ab eU p1_0),.sl false false p1_1.length (ab (eI .i64) p1_1),.sl false false p1_2.length (ab (eI .i64) p1_2)]]=(jN (av.mk p0_0) (fq.mk p1_0 p1_1 p1_2)).map fun r:av×Int×(List Int)×Bool=>(.clean (.tup [.agg [.sl false false r.1.ag.length (ab aq r.1.ag)],.int .i64 r.2.1,.sl false false r.2.2.1.length (ab (eI .i64) r.2.2.1),.bool r.2.2.2]),none):=aJ _ _ _ ((av.mk p0_0),(fq.mk p1_0 p1_1 p1_2))
noncomputable def mS:Env:=(Am.ext aU 37 false mK)
theorem Dv:bT Tryz.prog mS:=(bT.none.add vd false)
theorem eh:type_of% (ai @w<|ai @kN<|@mS.eq_1):=⟨@w,@kN,@mS.eq_1⟩
theorem G9 (p0:av) (p1:fq) (r:av×Int×(List Int)×Bool) (hh:jN p0 p1=some r):aS .clean tab mS FU Tryz.f27 none [.agg [.sl false false p0.ag.length (ab aq p0.ag)],.agg [.sl false false p1.aH.length (ab eU p1.aH),.sl false false p1.aP.length (ab (eI .i64) p1.aP),.sl false false p1.aO.length (ab (eI .i64) p1.aO)]]=some (.clean (.tup [.agg [.sl false false r.1.ag.length (ab aq r.1.ag)],.int .i64 r.2.1,.sl false false r.2.2.1.length (ab (eI .i64) r.2.2.1),.bool r.2.2.2]),none):=by
 refine aw rfl Tryz.ntmps27 Tryz.results27 ?_
 unfold jN at hh
 obtain⟨r1,hr1,hh⟩:=ae hh
 try simp only[eh,seval,-Int.reduceToNat,hr1]
 refine sp ji hh (fun _ hh =>?_) (fun _ hh =>?_)
 ·try simp only[eh,seval,-Int.reduceToNat,hr1]
  refine sp ji hh (fun _ hh =>?_) (fun _ hh =>?_)
  ·try simp only[eh,seval,-Int.reduceToNat,hr1]
   refine sp ji hh (fun _ hh =>?_) (fun _ hh =>?_)
   ·try simp only[eh,seval,-Int.reduceToNat,hr1]
    refine bX (by kernel_rfl) ?_
    cases hh
    try simp only[eh,seval,-Int.reduceToNat,hr1]
   ·try simp only[eh,seval,-Int.reduceToNat,hr1]
    refine bX (by kernel_rfl) ?_
    cases hh
    try simp only[eh,seval,-Int.reduceToNat,hr1]
  ·try simp only[eh,seval,-Int.reduceToNat,hr1]
   refine bX (by kernel_rfl) ?_
   cases hh
   try simp only[eh,seval,-Int.reduceToNat,hr1]
 ·try simp only[eh,seval,-Int.reduceToNat,hr1]
  refine bX (by kernel_rfl) ?_
  cases hh
  try simp only[eh,seval,-Int.reduceToNat,hr1]
theorem DU:bN Tryz.prog 27 pW:=bN.of (mode := .clean) tok Dv mixed Tryz.func27 (by kernel_rfl) ⟨by kernel_rfl,by kernel_rfl⟩ (fun _=>Nat.le_of_ble_eq_true (by kernel_rfl)) (fun x r h=>G9 x.1 x.2 r h)
noncomputable def qd:=eB (dR (cR dx) (dK (aI .i64))) (fun x:av×Int=>jS x.1 x.2) (fun r:(List Bool) =>.clean (.sl false false r.length (ab gr r)))
theorem xg (p0_0:(List ak)) (p1:Int):qd none [.agg [.sl false false p0_0.length (ab aq p0_0)],.int .i64 p1]=(jS (av.mk p0_0) p1).map fun r:(List Bool)=>(.clean (.sl false false r.length (ab gr r)),none):=aJ _ _ _ ((av.mk p0_0),p1)
noncomputable def mX:Env:=(Am.ext aU 123 false lK)
theorem DA:bT Tryz.prog mX:=(bT.none.add tz false)
theorem dh:type_of% (ai @w<|ai @lZ<|@mX.eq_1):=⟨@w,@lZ,@mX.eq_1⟩
theorem Hf (p0:av) (p1:Int) (r:(List Bool)) (hh:jS p0 p1=some r):aS .clean tab mX FU Tryz.f96 none [.agg [.sl false false p0.ag.length (ab aq p0.ag)],.int .i64 p1]=some (.clean (.sl false false r.length (ab gr r)),none):=by
 refine aw rfl Tryz.ntmps96 Tryz.results96 ?_
 unfold jS at hh
 obtain⟨x1,hx1,hh⟩:=ae hh
 obtain⟨q2a,q2b,q2c,q2d,q2e⟩:=mk_one gr hx1
 simp only[bU]at q2d
 obtain⟨x3,hx3,hh⟩:=ae hh
 have ax3:=bF gr hx3
 simp only[bU]at ax3
 have p4:=jH gr (x':=true) (fo:=0) (cs:=[.bool true]) hx3 rfl (Nat.le_of_ble_eq_true rfl)
 simp only[bU,Nat.add_zero]at p4
 have up4:=p4
 simp only[putCells,List.length_cons,List.length_nil,Nat.zero_add,Nat.reduceAdd]at up4
 try simp only[dh,seval,-Int.reduceToNat,q2a,q2b,q2c,q2d,q2e,ax3,p4,up4]
 obtain⟨o18,ho18,hh⟩:=ae hh
 refine aB (fun s t H e=>match s with|(s6a,l5a)=>∃v2a:Nat,∃v5a:Nat,t 2=.ptr 2 v2a 0∧t 5=.buf 5 v5a 1 0 (l5a).length∧t 6=.int .i64 s6a∧H 2=some ⟨v2a,24,[.sl false false p0.ag.length (ab aq p0.ag)],false,false,false⟩∧H 5=some ⟨v5a,4,ab gr l5a,false,true,false⟩) (fun o x t H e=>match o with|l5ax=>x=.exit 0∧∃v5ax:Nat,t 5=.buf 5 v5ax 1 0 (l5ax).length∧H 5=some ⟨v5ax,4,ab gr l5ax,false,true,false⟩) ho18 ?_ ?_ ?_
 ·refine⟨0,1,?_,?_,?_,?_,?_⟩
  all_goals first|rfl|(simp only[dh,seval,-Int.reduceToNat,q2a,q2b,q2c,q2d,q2e,ax3,p4,up4]<;>rfl)
 ·rintro⟨s6a,l5a⟩ t H e ⟨v2a,v5a,Za⟩ c hh
  simp only[eN]at hh
  try simp only[dh,seval,-Int.reduceToNat,q2a,q2b,q2c,q2d,q2e,ax3,p4,up4,Za]
  refine sp an hh (fun _ hh =>?_) (fun _ hh =>?_)
  ·obtain⟨x20,hx20,hh⟩:=ae hh
   have ax20:=bF aq hx20
   simp only[bU]at ax20
   obtain⟨r21,hr21,hh⟩:=ae hh
   try simp only[dh,seval,-Int.reduceToNat,q2a,q2b,q2c,q2d,q2e,ax3,p4,up4,Za,ax20,hr21]
   refine sp bk hh (fun _ hh =>?_) (fun _ hh =>?_)
   ·obtain⟨x23,hx23,hh⟩:=ae hh
    have ax23:=bF gr hx23
    simp only[bU]at ax23
    try simp only[dh,seval,-Int.reduceToNat,q2a,q2b,q2c,q2d,q2e,ax3,p4,up4,Za,ax20,hr21,ax23]
    refine sp aR hh (fun _ hh =>?_) (fun _ hh =>?_)
    ·obtain⟨x25,hx25,hh⟩:=ae hh
     have ax25:=bF gr hx25
     simp only[bU]at ax25
     have p26:=jH gr (x':=true) (fo:=0) (cs:=[.bool true]) hx25 rfl (Nat.le_of_ble_eq_true rfl)
     simp only[bU,Nat.add_zero]at p26
     have up26:=p26
     simp only[putCells,List.length_cons,List.length_nil,Nat.zero_add,Nat.reduceAdd]at up26
     cases hh
     try simp only[dh,seval,-Int.reduceToNat,q2a,q2b,q2c,q2d,q2e,ax3,p4,up4,Za,ax20,hr21,ax23,ax25,p26,up26]
     refine iS ?_
     refine⟨v2a,v5a,?_,?_,?_,?_,?_⟩
     all_goals first|rfl|(simp only[dh,seval,-Int.reduceToNat,q2a,q2b,q2c,q2d,q2e,ax3,p4,up4,Za,ax20,hr21,ax23,ax25,p26,up26]<;>rfl)
    ·obtain⟨x27,hx27,hh⟩:=ae hh
     have ax27:=bF gr hx27
     simp only[bU]at ax27
     obtain⟨x28,hx28,hh⟩:=ae hh
     have ax28:=bF gr hx28
     simp only[bU]at ax28
     have p29:=jH gr (x':=x27) (fo:=0) (cs:=[.bool x27]) hx28 rfl (Nat.le_of_ble_eq_true rfl)
     simp only[bU,Nat.add_zero]at p29
     have up29:=p29
     simp only[putCells,List.length_cons,List.length_nil,Nat.zero_add,Nat.reduceAdd]at up29
     cases hh
     try simp only[dh,seval,-Int.reduceToNat,q2a,q2b,q2c,q2d,q2e,ax3,p4,up4,Za,ax20,hr21,ax23,ax27,ax28,p29,up29]
     refine iS ?_
     refine⟨v2a,v5a,?_,?_,?_,?_,?_⟩
     all_goals first|rfl|(simp only[dh,seval,-Int.reduceToNat,q2a,q2b,q2c,q2d,q2e,ax3,p4,up4,Za,ax20,hr21,ax23,ax27,ax28,p29,up29]<;>rfl)
   ·obtain⟨x30,hx30,hh⟩:=ae hh
    have ax30:=bF gr hx30
    simp only[bU]at ax30
    have p31:=jH gr (x':=false) (fo:=0) (cs:=[.bool false]) hx30 rfl (Nat.le_of_ble_eq_true rfl)
    simp only[bU,Nat.add_zero]at p31
    have up31:=p31
    simp only[putCells,List.length_cons,List.length_nil,Nat.zero_add,Nat.reduceAdd]at up31
    cases hh
    try simp only[dh,seval,-Int.reduceToNat,q2a,q2b,q2c,q2d,q2e,ax3,p4,up4,Za,ax20,hr21,ax30,p31,up31]
    refine iS ?_
    refine⟨v2a,v5a,?_,?_,?_,?_,?_⟩
    all_goals first|rfl|(simp only[dh,seval,-Int.reduceToNat,q2a,q2b,q2c,q2d,q2e,ax3,p4,up4,Za,ax20,hr21,ax30,p31,up31]<;>rfl)
  ·cases hh
   try simp only[dh,seval,-Int.reduceToNat,q2a,q2b,q2c,q2d,q2e,ax3,p4,up4,Za]
   refine ki ?_
   refine⟨rfl,⟨v5a,?_,?_⟩⟩
   all_goals first|rfl|(simp only[dh,seval,-Int.reduceToNat,q2a,q2b,q2c,q2d,q2e,ax3,p4,up4,Za]<;>rfl)
 ·rintro x t H e hx
  obtain⟨l5ax,rfl⟩:∃z,z=o18:=⟨_,rfl⟩
  dsimp only at hx hh
  obtain⟨rfl,⟨v5ax,Zax⟩⟩:=hx
  cases hh
  try simp only[dh,seval,-Int.reduceToNat,q2a,q2b,q2c,q2d,q2e,ax3,p4,up4,Zax]
theorem DY:bN Tryz.prog 96 qd:=bN.of (mode := .clean) tok DA mixed Tryz.func96 (by kernel_rfl) ⟨by kernel_rfl,by kernel_rfl⟩ (fun _=>Nat.le_of_ble_eq_true (by kernel_rfl)) (fun x r h=>Hf x.1 x.2 r h)
noncomputable def sw:=eB (dR (cR dx) (dR (aI .i64) (dK (aI .i64)))) (fun x:av×Int×Int=>lD x.1 x.2.1 x.2.2) (fun r:(List Int) =>.clean (.sl false false r.length (ab (eI .i64) r)))
theorem zx (p0_0:(List ak)) (p1:Int) (p2:Int):sw none [.agg [.sl false false p0_0.length (ab aq p0_0)],.int .i64 p1,.int .i64 p2]=(lD (av.mk p0_0) p1 p2).map fun r:(List Int)=>(.clean (.sl false false r.length (ab (eI .i64) r)),none):=aJ _ _ _ ((av.mk p0_0),p1,p2)
noncomputable def oP:Env:=(Am.ext (Am.ext (Am.ext aU 39 false fb) 95 false p9) 96 false qd)
theorem G1:bT Tryz.prog oP:=(((bT.none.add gx false).add zi false).add DY false)
theorem bM:type_of% (ai @w<|ai @cU<|ai @qU<|ai @xg<|@oP.eq_1):=⟨@w,@cU,@qU,@xg,@oP.eq_1⟩
theorem Kl (p0:av) (p1:Int) (p2:Int) (r:(List Int)) (hh:lD p0 p1 p2=some r):aS .clean tab oP FU Tryz.f55 none [.agg [.sl false false p0.ag.length (ab aq p0.ag)],.int .i64 p1,.int .i64 p2]=some (.clean (.sl false false r.length (ab (eI .i64) r)),none):=by
 refine aw rfl Tryz.ntmps55 Tryz.results55 ?_
 unfold lD at hh
 obtain⟨r1,hr1,hh⟩:=ae hh
 try simp only[bM,seval,-Int.reduceToNat,hr1]
 obtain⟨o2,ho2,hh⟩:=ae hh
 refine bH 0 (fun s t H e=>match s with|s27j1=>∃v3j1:Nat,t 1=.int .i64 p1∧t 2=.int .i64 p2∧t 3=.ptr 3 v3j1 0∧t 27=.bool s27j1∧H 3=some ⟨v3j1,24,[.sl false false p0.ag.length (ab aq p0.ag)],false,false,false⟩) (fun s=>s=o2) ?_ ?_
 ·rintro s27j1 t H e ⟨v3j1,Zj1⟩ rfl
  try dsimp only at hh
  try simp only[bM,seval,-Int.reduceToNat,hr1,Zj1]
  refine sp an hh (fun _ hh =>?_) (fun _ hh =>?_)
  ·cases hh
   try simp only[bM,seval,-Int.reduceToNat,hr1,Zj1]
  ·obtain⟨r4,hr4,hh⟩:=ae hh
   obtain⟨x5,hx5,hh⟩:=ae hh
   have ax5:=bF gr hx5
   simp only[bU]at ax5
   try simp only[bM,seval,-Int.reduceToNat,hr1,Zj1,hr4,ax5]
   refine sp an hh (fun _ hh =>?_) (fun _ hh =>?_)
   ·cases hh
    try simp only[bM,seval,-Int.reduceToNat,hr1,Zj1,hr4,ax5]
   ·try simp only[bM,seval,-Int.reduceToNat,hr1,Zj1,hr4,ax5]
    obtain⟨o15,ho15,hh⟩:=ae hh
    refine aB (fun s t H e=>match s with|(s9b,l8b)=>∃v3b:Nat,∃v8b:Nat,t 2=.int .i64 p2∧t 3=.ptr 3 v3b 0∧t 7=.sl false false r4.length (ab gr r4)∧t 8=.buf 8 v8b 1 0 (l8b).length∧t 9=.int .i64 s9b∧H 3=some ⟨v3b,24,[.sl false false p0.ag.length (ab aq p0.ag)],false,false,false⟩∧H 8=some ⟨v8b,3,ab (eI .i64) l8b,false,true,false⟩) (fun o x t H e=>match o with|l8bx=>x=.exit 0∧∃v8bx:Nat,t 8=.buf 8 v8bx 1 0 (l8bx).length∧H 8=some ⟨v8bx,3,ab (eI .i64) l8bx,false,true,false⟩) ho15 ?_ ?_ ?_
    ·refine⟨v3j1,e+1+1,?_,?_,?_,?_,?_,?_,?_⟩
     all_goals first|rfl|(simp only[bM,seval,-Int.reduceToNat,hr1,Zj1,hr4,ax5]<;>rfl)
    ·rintro⟨s9b,l8b⟩ t H e ⟨v3b,v8b,Zb⟩ c hh
     simp only[fV]at hh
     try simp only[bM,seval,-Int.reduceToNat,hr1,hr4,ax5,Zb]
     refine sp an hh (fun _ hh =>?_) (fun _ hh =>?_)
     ·obtain⟨x17,hx17,hh⟩:=ae hh
      have ax17:=bF aq hx17
      simp only[bU]at ax17
      try simp only[bM,seval,-Int.reduceToNat,hr1,hr4,ax5,Zb,ax17]
      refine bX (by kernel_rfl) ?_
      obtain⟨x18,hx18,hh⟩:=ae hh
      have ax18:=bF gr hx18
      simp only[bU]at ax18
      try simp only[bM,seval,-Int.reduceToNat,hr1,hr4,ax5,Zb,ax17,ax18]
      refine sp an hh (fun _ hh =>?_) (fun _ hh =>?_)
      ·obtain⟨x20,hx20,hh⟩:=ae hh
       obtain⟨q21a,q21b,q21c,q21d⟩:=fD (eI .i64) hx20
       simp only[bU]at q21b
       cases hh
       try simp only[bM,seval,-Int.reduceToNat,hr1,hr4,ax5,Zb,ax17,ax18,q21a,q21b,q21c,q21d]
       refine iS ?_
       refine⟨v3b,e+1+1+1+1+1+1,?_,?_,?_,?_,?_,?_,?_⟩
       all_goals first|rfl|(simp only[bM,seval,-Int.reduceToNat,hr1,hr4,ax5,Zb,ax17,ax18,q21a,q21b,q21c,q21d]<;>rfl)
      ·obtain⟨x22,hx22,hh⟩:=ae hh
       obtain⟨q23a,q23b,q23c,q23d⟩:=fD (eI .i64) hx22
       simp only[bU]at q23b
       cases hh
       try simp only[bM,seval,-Int.reduceToNat,hr1,hr4,ax5,Zb,ax17,ax18,q23a,q23b,q23c,q23d]
       refine iS ?_
       refine⟨v3b,e+1+1+1+1+1,?_,?_,?_,?_,?_,?_,?_⟩
       all_goals first|rfl|(simp only[bM,seval,-Int.reduceToNat,hr1,hr4,ax5,Zb,ax17,ax18,q23a,q23b,q23c,q23d]<;>rfl)
     ·cases hh
      try simp only[bM,seval,-Int.reduceToNat,hr1,hr4,ax5,Zb]
      refine ki ?_
      refine⟨rfl,⟨v8b,?_,?_⟩⟩
      all_goals first|rfl|(simp only[bM,seval,-Int.reduceToNat,hr1,hr4,ax5,Zb]<;>rfl)
    ·rintro x t H e hx
     obtain⟨l8bx,rfl⟩:∃z,z=o15:=⟨_,rfl⟩
     dsimp only at hx hh
     obtain⟨rfl,⟨v8bx,Zbx⟩⟩:=hx
     cases hh
     try simp only[bM,seval,-Int.reduceToNat,hr1,hr4,ax5,Zbx]
 ·clear hh
  have hh:=ho2
  try simp only[bM,seval,-Int.reduceToNat,hr1]
  refine sp aR hh (fun _ hh =>?_) (fun _ hh =>?_)
  ·cases hh
   try simp only[bM,seval,-Int.reduceToNat,hr1]
   rw[al]
   refine⟨_,rfl,?_⟩
   refine⟨0,?_,?_,?_,?_,?_⟩
   all_goals first|rfl|(simp only[bM,seval,-Int.reduceToNat,hr1]<;>rfl)
  ·obtain⟨r25,hr25,hh⟩:=ae hh
   try simp only[bM,seval,-Int.reduceToNat,hr1,hr25]
   refine sp aR hh (fun _ hh =>?_) (fun _ hh =>?_)
   ·cases hh
    try simp only[bM,seval,-Int.reduceToNat,hr1,hr25]
    rw[al]
    refine⟨_,rfl,?_⟩
    refine⟨0,?_,?_,?_,?_,?_⟩
    all_goals first|rfl|(simp only[bM,seval,-Int.reduceToNat,hr1,hr25]<;>rfl)
   ·obtain⟨r27,hr27,hh⟩:=ae hh
    cases hh
    try simp only[bM,seval,-Int.reduceToNat,hr1,hr25,hr27]
    rw[al]
    refine⟨_,rfl,?_⟩
    refine⟨0,?_,?_,?_,?_,?_⟩
    all_goals first|rfl|(simp only[bM,seval,-Int.reduceToNat,hr1,hr25,hr27]<;>rfl)
theorem HA:bN Tryz.prog 55 sw:=bN.of (mode := .clean) tok G1 mixed Tryz.func55 (by kernel_rfl) ⟨by kernel_rfl,by kernel_rfl⟩ (fun _=>Nat.le_of_ble_eq_true (by kernel_rfl)) (fun x r h=>Kl x.1 x.2.1 x.2.2 r h)
noncomputable def vB:=eB (dR (cR dx) (dR (aI .i64) (dR (iG (eI .i64)) (dR (cR sP) (dK (aI .i64)))))) (fun x:av×Int×(List Int)×fq×Int=>l7 x.1 x.2.1 x.2.2.1 x.2.2.2.1 x.2.2.2.2) (fun r:aC =>.clean (.agg [.int .i64 r.cg,.sl false false r.bo.length (ab (eI .i64) r.bo),.str r.bE,.int .i64 r.ay,.int .i64 r.aA]))
theorem CC (p0_0:(List ak)) (p1:Int) (p2:(List Int)) (p3_0:(List ByteArray)) (p3_1:(List Int)) (p3_2:(List Int)) (p4:Int):vB none [.agg [.sl false false p0_0.length (ab aq p0_0)],.int .i64 p1,.sl false false p2.length (ab (eI .i64) p2),.agg [.sl false false p3_0.length (ab eU p3_0),.sl false false p3_1.length (ab (eI .i64) p3_1),.sl false false p3_2.length (ab (eI .i64) p3_2)],.int .i64 p4]=(l7 (av.mk p0_0) p1 p2 (fq.mk p3_0 p3_1 p3_2) p4).map fun r:aC=>(.clean (.agg [.int .i64 r.cg,.sl false false r.bo.length (ab (eI .i64) r.bo),.str r.bE,.int .i64 r.ay,.int .i64 r.aA]),none):=aJ _ _ _ ((av.mk p0_0),p1,p2,(fq.mk p3_0 p3_1 p3_2),p4)
noncomputable def qE:Env:=(Am.ext aU 55 false sw)
theorem Jp:bT Tryz.prog qE:=(bT.none.add HA false)
theorem Df:type_of% (ai @w<|ai @zx<|@qE.eq_1):=⟨@w,@zx,@qE.eq_1⟩
theorem Mw (p0:av) (p1:Int) (p2:(List Int)) (p3:fq) (p4:Int) (r:aC) (hh:l7 p0 p1 p2 p3 p4=some r):aS .clean tab qE FU Tryz.f28 none [.agg [.sl false false p0.ag.length (ab aq p0.ag)],.int .i64 p1,.sl false false p2.length (ab (eI .i64) p2),.agg [.sl false false p3.aH.length (ab eU p3.aH),.sl false false p3.aP.length (ab (eI .i64) p3.aP),.sl false false p3.aO.length (ab (eI .i64) p3.aO)],.int .i64 p4]=some (.clean (.agg [.int .i64 r.cg,.sl false false r.bo.length (ab (eI .i64) r.bo),.str r.bE,.int .i64 r.ay,.int .i64 r.aA]),none):=by
 refine aw rfl Tryz.ntmps28 Tryz.results28 ?_
 unfold l7 at hh
 obtain⟨x1,hx1,hh⟩:=ae hh
 have ax1:=bF (eI .i64) hx1
 simp only[bU]at ax1
 have ax1:=bF (eI .i64) hx1
 simp only[bU]at ax1
 obtain⟨r2,hr2,hh⟩:=ae hh
 obtain⟨x3,hx3,hh⟩:=ae hh
 have ax3:=bF eU hx3
 simp only[bU]at ax3
 obtain⟨x4,hx4,hh⟩:=ae hh
 have ax4:=bF (eI .i64) hx4
 simp only[bU]at ax4
 obtain⟨x5,hx5,hh⟩:=ae hh
 have ax5:=bF (eI .i64) hx5
 simp only[bU]at ax5
 try simp only[Df,seval,-Int.reduceToNat,ax1,ax1,hr2,ax3,ax4,ax5]
 refine bX (by kernel_rfl) ?_
 cases hh
 try simp only[Df,seval,-Int.reduceToNat,ax1,ax1,hr2,ax3,ax4,ax5]
theorem KG:bN Tryz.prog 28 vB:=bN.of (mode := .clean) tok Jp mixed Tryz.func28 (by kernel_rfl) ⟨by kernel_rfl,by kernel_rfl⟩ (fun _=>Nat.le_of_ble_eq_true (by kernel_rfl)) (fun x r h=>Mw x.1 x.2.1 x.2.2.1 x.2.2.2.1 x.2.2.2.2 r h)
noncomputable def sj:=eB (dK (iG (eI .i64))) (fun x:(List Int)=>ij x) (fun r:Int =>.clean (.int .i64 r))
theorem zo (p0:(List Int)):sj none [.sl false false p0.length (ab (eI .i64) p0)]=(ij p0).map fun r:Int=>(.clean (.int .i64 r),none):=aJ _ _ _ (p0)
theorem J9 (p0:(List Int)) (r:Int) (hh:ij p0=some r):aS .clean tab aU FU Tryz.f33 none [.sl false false p0.length (ab (eI .i64) p0)]=some (.clean (.int .i64 r),none):=by
 refine aw rfl Tryz.ntmps33 Tryz.results33 ?_
 unfold ij at hh
 try simp only[w,seval,-Int.reduceToNat]
 obtain⟨o3,ho3,hh⟩:=ae hh
 refine aB (fun s t H e=>match s with|(s3a,s4a)=>t 0=.sl false false p0.length (ab (eI .i64) p0)∧t 3=.int .i64 s3a∧t 4=.int .i64 s4a) (fun o x t H e=>match o with|s3ax=>x=.exit 0∧t 3=.int .i64 s3ax) ho3 ?_ ?_ ?_
 ·refine⟨?_,?_,?_⟩
  all_goals first|rfl|(simp only[w,seval,-Int.reduceToNat]<;>rfl)
 ·rintro⟨s3a,s4a⟩ t H e Za c hh
  simp only[jd]at hh
  try simp only[w,seval,-Int.reduceToNat,Za]
  refine sp an hh (fun _ hh =>?_) (fun _ hh =>?_)
  ·obtain⟨x5,hx5,hh⟩:=ae hh
   have ax5:=bF (eI .i64) hx5
   simp only[bU]at ax5
   cases hh
   try simp only[w,seval,-Int.reduceToNat,Za,ax5]
   refine iS ?_
   refine⟨?_,?_,?_⟩
   all_goals first|rfl|(simp only[w,seval,-Int.reduceToNat,Za,ax5]<;>rfl)
  ·cases hh
   try simp only[w,seval,-Int.reduceToNat,Za]
   refine ki ?_
   refine⟨rfl,?_⟩
   all_goals first|rfl|(simp only[w,seval,-Int.reduceToNat,Za]<;>rfl)
 ·rintro x t H e hx
  obtain⟨s3ax,rfl⟩:∃z,z=o3:=⟨_,rfl⟩
  dsimp only at hx hh
  obtain⟨rfl,Zax⟩:=hx
  cases hh
  try simp only[w,seval,-Int.reduceToNat,Zax]
theorem Hr:bN Tryz.prog 33 sj:=bN.of (mode := .clean) tok bT.none mixed Tryz.func33 (by kernel_rfl) ⟨by kernel_rfl,by kernel_rfl⟩ (fun _=>Nat.le_of_ble_eq_true (by kernel_rfl)) (fun x r h=>J9 x r h)
noncomputable def zT:=eB (dR (cR dx) (dR (cR sP) (dR (aI .u8) (dR (cR bt) (dK (aI .i64)))))) (fun x:av×fq×Int×aC×Int=>fe x.1 x.2.1 x.2.2.1 x.2.2.2.1 x.2.2.2.2) (fun r:Bool =>.clean (.bool r))
noncomputable def jD:Env:=(Am.ext (Am.ext (Am.ext (Am.ext (Am.ext (Am.ext (Am.ext (Am.ext (Am.ext (Am.ext aU 9 false si) 10 false xN) 11 false xP) 13 false jn) 17 false pY) 26 false xF) 27 false pW) 28 false vB) 33 false sj) 34 false sq)
theorem ye:bT Tryz.prog jD:=((((((((((bT.none.add Hq false).add MT false).add MV false).add n5 false).add zh false).add ML false).add DU false).add KG false).add Hr false).add Hv false)
theorem ah:type_of% (ai @w<|ai @zn<|ai @FX<|ai @yy<|ai @dH<|ai @jP<|ai @FN<|ai @xc<|ai @CC<|ai @zo<|ai @zr<|@jD.eq_1):=⟨@w,@zn,@FX,@yy,@dH,@jP,@FN,@xc,@CC,@zo,@zr,@jD.eq_1⟩
end Go.Proofs.YtpkahnkoecbndaaGreatDoor.Am
