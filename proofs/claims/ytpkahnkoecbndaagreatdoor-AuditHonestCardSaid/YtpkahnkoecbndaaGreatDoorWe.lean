/- Part of a proof, made small by a program (wip/mini.py). -/
import Derived.Test.YtpkahnkoecbndaaGreatDoorWd
namespace Go.Proofs.YtpkahnkoecbndaaGreatDoor.Am
open Go.RowKit Go.Proofs.YtpkahnkoecbndaaGreatDoor.P
set_option maxRecDepth 100000
set_option maxHeartbeats 4000000
set_option linter.unusedSimpArgs false
set_option linter.unusedVariables false
theorem Po (p0:(List Int)) (p1:(List Int)) (r:(List Int)×(List Int)) (hh:qo p0 p1=some r):aP .clean tab tT FU Tryz.f125 none [.sl false false p0.length (ab (eI .i64) p0),.sl false false p1.length (ab (eI .i64) p1)]=some (.clean (.tup [.sl false false r.1.length (ab (eI .i64) r.1),.sl false false r.2.length (ab (eI .i64) r.2)]),none):=by
 refine ax rfl Tryz.ntmps125 Tryz.results125 ?_
 unfold qo at hh
 obtain⟨r1,hr1,hh⟩:=ae hh
 try simp only[aS,seval,-Int.reduceToNat,hr1]
 refine sp ak hh (fun _ hh =>?_) (fun _ hh =>?_)
 ·obtain⟨r3,hr3,hh⟩:=ae hh
  cases hh
  try simp only[aS,seval,-Int.reduceToNat,hr1,hr3]
 ·try simp only[aS,seval,-Int.reduceToNat,hr1]
  refine sp ak hh (fun _ hh =>?_) (fun _ hh =>?_)
  ·obtain⟨x5,hx5,hh⟩:=ae hh
   have ax5:=bH (eI .i64) hx5
   simp only[bZ]at ax5
   obtain⟨r6,hr6,hh⟩:=ae hh
   have i7:=jP ([r6.2])
   simp only[aN,bZ,List.length_cons,List.length_nil,Nat.zero_add,Nat.reduceAdd,List.length_set]at i7
   obtain⟨r8,hr8,hh⟩:=ae hh
   cases hh
   try simp only[aS,seval,-Int.reduceToNat,hr1,ax5,hr6,i7,hr8]
  ·try simp only[aS,seval,-Int.reduceToNat,hr1]
   obtain⟨o11,ho11,hh⟩:=ae hh
   refine az (fun s t H e=>match s with|s8a=>t 0=.sl false false p0.length (ab (eI .i64) p0)∧t 1=.sl false false p1.length (ab (eI .i64) p1)∧t 8=.int .i64 s8a) (fun o x t H e=>match o with|s8ax=>x=.exit 0∧t 0=.sl false false p0.length (ab (eI .i64) p0)∧t 1=.sl false false p1.length (ab (eI .i64) p1)∧t 8=.int .i64 s8ax) ho11 ?_ ?_ ?_
   ·refine⟨?_,?_,?_⟩
    all_goals first|rfl|(simp only[aS,seval,-Int.reduceToNat,hr1]<;>rfl)
   ·rintro s8a t H e Za c hh
    simp only[qp]at hh
    obtain⟨x12,hx12,hh⟩:=ae hh
    have ax12:=bH (eI .i64) hx12
    simp only[bZ]at ax12
    try simp only[aS,seval,-Int.reduceToNat,hr1,Za,ax12]
    refine sp ak hh (fun _ hh =>?_) (fun _ hh =>?_)
    ·cases hh
     try simp only[aS,seval,-Int.reduceToNat,hr1,Za,ax12]
     refine jg ?_
     refine⟨?_,?_,?_⟩
     all_goals first|rfl|(simp only[aS,seval,-Int.reduceToNat,hr1,Za,ax12]<;>rfl)
    ·cases hh
     try simp only[aS,seval,-Int.reduceToNat,hr1,Za,ax12]
     refine kX ?_
     refine⟨rfl,⟨?_,?_,?_⟩⟩
     all_goals first|rfl|(simp only[aS,seval,-Int.reduceToNat,hr1,Za,ax12]<;>rfl)
   ·rintro x t H e hx
    obtain⟨s8ax,rfl⟩:∃z,z=o11:=⟨_,rfl⟩
    dsimp only at hx hh
    obtain⟨rfl,Zax⟩:=hx
    have i14:=ny p0 ([s8ax])
    simp only[aN,bZ,List.length_cons,List.length_nil,Nat.zero_add,Nat.reduceAdd,List.length_set]at i14
    obtain⟨r15,hr15,hh⟩:=ae hh
    obtain⟨x16,hx16,hh⟩:=ae hh
    obtain⟨q17a,q17b,q17c,q17d⟩:=ey (eI .i64) hx16
    simp only[bZ]at q17b
    have i18:=ny p1 ([s8ax])
    simp only[aN,bZ,List.length_cons,List.length_nil,Nat.zero_add,Nat.reduceAdd,List.length_set]at i18
    obtain⟨r19,hr19,hh⟩:=ae hh
    try simp only[aS,seval,-Int.reduceToNat,hr1,Zax,i14,hr15,q17a,q17b,q17c,q17d,i18,hr19]
    obtain⟨o20,ho20,hh⟩:=ae hh
    refine mm 0 (fun s t H e=>match s with|l9j2=>∃v9j2:Nat,∃v10j2:Nat,t 8=.int .i64 s8ax∧t 9=.buf 9 v9j2 1 0 (l9j2).length∧t 10=.buf 10 v10j2 1 0 (r19).length∧H 9=some ⟨v9j2,3,ab (eI .i64) l9j2,false,true,false⟩∧H 10=some ⟨v10j2,3,ab (eI .i64) r19,false,true,false⟩) (fun s=>s=o20) ?_ ?_
    ·rintro l9j2 t H e ⟨v9j2,v10j2,Zj2⟩ rfl
     try dsimp only at hh
     obtain⟨x21,hx21,hh⟩:=ae hh
     obtain⟨q22a,q22b,q22c,q22d,q22e⟩:=mk_one (eI .i64) hx21
     simp only[bZ]at q22d
     try simp only[aS,seval,-Int.reduceToNat,hr1,i14,hr15,q17a,q17b,q17c,q17d,i18,hr19,Zj2,q22a,q22b,q22c,q22d,q22e]
     obtain⟨o58,ho58,hh⟩:=ae hh
     refine az (fun s t H e=>match s with|(s13c,l9c,l12c)=>∃v9c:Nat,∃v10c:Nat,∃v12c:Nat,∃z10c:Bool,t 8=.int .i64 s8ax∧t 9=.buf 9 v9c 1 0 (l9c).length∧t 10=.buf 10 v10c 1 0 (r19).length∧t 11=.int .i64 ((r19).length:Int)∧t 12=.buf 12 v12c 1 0 (l12c).length∧t 13=.int .i64 s13c∧H 9=some ⟨v9c,3,ab (eI .i64) l9c,false,true,false⟩∧H 10=some ⟨v10c,3,ab (eI .i64) r19,z10c,true,false⟩∧H 12=some ⟨v12c,3,ab (eI .i64) l12c,false,true,false⟩) (fun o x t H e=>match o with|(l9cx,l12cx)=>x=.exit 2∧∃v9cx:Nat,∃v12cx:Nat,t 8=.int .i64 s8ax∧t 9=.buf 9 v9cx 1 0 (l9cx).length∧t 12=.buf 12 v12cx 1 0 (l12cx).length∧H 9=some ⟨v9cx,3,ab (eI .i64) l9cx,false,true,false⟩∧H 12=some ⟨v12cx,3,ab (eI .i64) l12cx,false,true,false⟩) ho58 ?_ ?_ ?_
     ·refine⟨v9j2,v10j2,e+1,false,?_,?_,?_,?_,?_,?_,?_,?_,?_⟩
      all_goals first|rfl|(simp only[aS,seval,-Int.reduceToNat,hr1,i14,hr15,q17a,q17b,q17c,q17d,i18,hr19,Zj2,q22a,q22b,q22c,q22d,q22e]<;>rfl)
     ·rintro⟨s13c,l9c,l12c⟩ t H e ⟨v9c,v10c,v12c,z10c,Zc⟩ c hh
      simp only[qq]at hh
      try simp only[aS,seval,-Int.reduceToNat,hr1,i14,hr15,q17a,q17b,q17c,q17d,i18,hr19,q22a,q22b,q22c,q22d,q22e,Zc]
      refine sp ak hh (fun _ hh =>?_) (fun _ hh =>?_)
      ·obtain⟨x60,hx60,hh⟩:=ae hh
       have ax60:=bH (eI .i64) hx60
       simp only[bZ]at ax60
       obtain⟨x61,hx61,hh⟩:=ae hh
       have q62:=Ae hx61
       obtain⟨x63,hx63,hh⟩:=ae hh
       have ax63:=bH (eI .i64) hx63
       simp only[bZ]at ax63
       try simp only[aS,seval,-Int.reduceToNat,hr1,i14,hr15,q17a,q17b,q17c,q17d,i18,hr19,q22a,q22b,q22c,q22d,q22e,Zc,ax60,q62,ax63]
       refine cj (by kernel_rfl) ?_
       obtain⟨x64,hx64,hh⟩:=ae hh
       have ax64:=bH (eI .i64) hx64
       simp only[bZ]at ax64
       obtain⟨x65,hx65,hh⟩:=ae hh
       have q66:=qy hx65
       have ax64:=bH (eI .i64) hx64
       simp only[bZ]at ax64
       obtain⟨x67,hx67,hh⟩:=ae hh
       have q68:=qP hx67
       try simp only[aS,seval,-Int.reduceToNat,hr1,i14,hr15,q17a,q17b,q17c,q17d,i18,hr19,q22a,q22b,q22c,q22d,q22e,Zc,ax60,q62,ax63,ax64,q66,ax64,q68]
       refine cj (by kernel_rfl) ?_
       try simp only[aS,seval,-Int.reduceToNat,hr1,i14,hr15,q17a,q17b,q17c,q17d,i18,hr19,q22a,q22b,q22c,q22d,q22e,Zc,ax60,q62,ax63,ax64,q66,ax64,q68]
       obtain⟨o78,ho78,hh⟩:=ae hh
       refine az (fun s t H e=>match s with|(s15g,s16g)=>∃v9g:Nat,∃v10g:Nat,∃v12g:Nat,∃z10g:Bool,t 8=.int .i64 s8ax∧t 9=.buf 9 v9g 1 0 (l9c).length∧t 10=.buf 10 v10g 1 0 (r19).length∧t 11=.int .i64 ((r19).length:Int)∧t 12=.buf 12 v12g 1 0 (l12c).length∧t 13=.int .i64 s13c∧t 15=.int .i64 s15g∧t 16=.int .i64 s16g∧H 9=some ⟨v9g,3,ab (eI .i64) l9c,false,true,false⟩∧H 10=some ⟨v10g,3,ab (eI .i64) r19,z10g,true,false⟩∧H 12=some ⟨v12g,3,ab (eI .i64) l12c,false,true,false⟩) (fun o x t H e=>match o with|s15gx=>x=.exit 4∧∃v9gx:Nat,∃v10gx:Nat,∃v12gx:Nat,∃z10gx:Bool,t 8=.int .i64 s8ax∧t 9=.buf 9 v9gx 1 0 (l9c).length∧t 10=.buf 10 v10gx 1 0 (r19).length∧t 11=.int .i64 ((r19).length:Int)∧t 12=.buf 12 v12gx 1 0 (l12c).length∧t 13=.int .i64 s13c∧t 15=.int .i64 s15gx∧H 9=some ⟨v9gx,3,ab (eI .i64) l9c,false,true,false⟩∧H 10=some ⟨v10gx,3,ab (eI .i64) r19,z10gx,true,false⟩∧H 12=some ⟨v12gx,3,ab (eI .i64) l12c,false,true,false⟩) ho78 ?_ ?_ ?_
       ·refine⟨v9c,v10c,v12c,z10c,?_,?_,?_,?_,?_,?_,?_,?_,?_,?_,?_⟩
        all_goals first|rfl|(simp only[aS,seval,-Int.reduceToNat,hr1,i14,hr15,q17a,q17b,q17c,q17d,i18,hr19,q22a,q22b,q22c,q22d,q22e,Zc,ax60,q62,ax63,ax64,q66,ax64,q68]<;>rfl)
       ·rintro⟨s15g,s16g⟩ t H e ⟨v9g,v10g,v12g,z10g,Zg⟩ c hh
        simp only[qt]at hh
        try simp only[aS,seval,-Int.reduceToNat,hr1,i14,hr15,q17a,q17b,q17c,q17d,i18,hr19,q22a,q22b,q22c,q22d,q22e,ax60,q62,ax63,ax64,q66,ax64,q68,Zg]
        obtain⟨o79,ho79,hh⟩:=ae hh
        refine KJ 0 (fun s t H e=>match s with|s137j9=>∃v9j9:Nat,∃v10j9:Nat,∃v12j9:Nat,∃z10j9:Bool,t 8=.int .i64 s8ax∧t 9=.buf 9 v9j9 1 0 (l9c).length∧t 10=.buf 10 v10j9 1 0 (r19).length∧t 11=.int .i64 ((r19).length:Int)∧t 12=.buf 12 v12j9 1 0 (l12c).length∧t 13=.int .i64 s13c∧t 15=.int .i64 s15g∧t 16=.int .i64 s16g∧t 137=.bool s137j9∧H 9=some ⟨v9j9,3,ab (eI .i64) l9c,false,true,false⟩∧H 10=some ⟨v10j9,3,ab (eI .i64) r19,z10j9,true,false⟩∧H 12=some ⟨v12j9,3,ab (eI .i64) l12c,false,true,false⟩) (fun s=>s=o79) ?_ ?_
        ·rintro s137j9 t H e ⟨v9j9,v10j9,v12j9,z10j9,Zj9⟩ rfl
         try dsimp only at hh
         try simp only[aS,seval,-Int.reduceToNat,hr1,i14,hr15,q17a,q17b,q17c,q17d,i18,hr19,q22a,q22b,q22c,q22d,q22e,ax60,q62,ax63,ax64,q66,ax64,q68,Zj9]
         refine sp ak hh (fun _ hh =>?_) (fun _ hh =>?_)
         ·have ax64:=bH (eI .i64) hx64
          simp only[bZ]at ax64
          cases hh
          try simp only[aS,seval,-Int.reduceToNat,hr1,i14,hr15,q17a,q17b,q17c,q17d,i18,hr19,q22a,q22b,q22c,q22d,q22e,ax60,q62,ax63,ax64,q66,ax64,q68,Zj9,ax64]
          refine jg ?_
          refine⟨v9j9,v10j9,v12j9,z10j9,?_,?_,?_,?_,?_,?_,?_,?_,?_,?_,?_⟩
          all_goals first|rfl|(simp only[aS,seval,-Int.reduceToNat,hr1,i14,hr15,q17a,q17b,q17c,q17d,i18,hr19,q22a,q22b,q22c,q22d,q22e,ax60,q62,ax63,ax64,q66,ax64,q68,Zj9,ax64]<;>rfl)
         ·cases hh
          try simp only[aS,seval,-Int.reduceToNat,hr1,i14,hr15,q17a,q17b,q17c,q17d,i18,hr19,q22a,q22b,q22c,q22d,q22e,ax60,q62,ax63,ax64,q66,ax64,q68,Zj9]
          refine kX ?_
          refine⟨rfl,⟨v9j9,v10j9,v12j9,z10j9,?_,?_,?_,?_,?_,?_,?_,?_,?_,?_⟩⟩
          all_goals first|rfl|(simp only[aS,seval,-Int.reduceToNat,hr1,i14,hr15,q17a,q17b,q17c,q17d,i18,hr19,q22a,q22b,q22c,q22d,q22e,ax60,q62,ax63,ax64,q66,ax64,q68,Zj9]<;>rfl)
        ·clear hh
         have hh:=ho79
         try simp only[aS,seval,-Int.reduceToNat,hr1,i14,hr15,q17a,q17b,q17c,q17d,i18,hr19,q22a,q22b,q22c,q22d,q22e,ax60,q62,ax63,ax64,q66,ax64,q68,Zg]
         refine sp S7 hh (fun _ hh =>?_) (fun _ hh =>?_)
         ·try simp only[aS,seval,-Int.reduceToNat,hr1,i14,hr15,q17a,q17b,q17c,q17d,i18,hr19,q22a,q22b,q22c,q22d,q22e,ax60,q62,ax63,ax64,q66,ax64,q68,Zg]
          refine cj (by kernel_rfl) ?_
          cases hh
          try simp only[aS,seval,-Int.reduceToNat,hr1,i14,hr15,q17a,q17b,q17c,q17d,i18,hr19,q22a,q22b,q22c,q22d,q22e,ax60,q62,ax63,ax64,q66,ax64,q68,Zg]
          rw[an]
          refine⟨_,rfl,?_⟩
          refine⟨v9g,v10g,v12g,z10g,?_,?_,?_,?_,?_,?_,?_,?_,?_,?_,?_,?_⟩
          all_goals first|rfl|(simp only[aS,seval,-Int.reduceToNat,hr1,i14,hr15,q17a,q17b,q17c,q17d,i18,hr19,q22a,q22b,q22c,q22d,q22e,ax60,q62,ax63,ax64,q66,ax64,q68,Zg]<;>rfl)
         ·try simp only[aS,seval,-Int.reduceToNat,hr1,i14,hr15,q17a,q17b,q17c,q17d,i18,hr19,q22a,q22b,q22c,q22d,q22e,ax60,q62,ax63,ax64,q66,ax64,q68,Zg]
          refine sp oV hh (fun _ hh =>?_) (fun _ hh =>?_)
          ·obtain⟨x83,hx83,hh⟩:=ae hh
           have ax83:=bH (eI .i64) hx83
           simp only[bZ]at ax83
           obtain⟨x84,hx84,hh⟩:=ae hh
           have q85:=Ae hx84
           obtain⟨x86,hx86,hh⟩:=ae hh
           have ax86:=bH (eI .i64) hx86
           simp only[bZ]at ax86
           try simp only[aS,seval,-Int.reduceToNat,hr1,i14,hr15,q17a,q17b,q17c,q17d,i18,hr19,q22a,q22b,q22c,q22d,q22e,ax60,q62,ax63,ax64,q66,ax64,q68,Zg,ax83,q85,ax86]
           refine cj (by kernel_rfl) ?_
           cases hh
           try simp only[aS,seval,-Int.reduceToNat,hr1,i14,hr15,q17a,q17b,q17c,q17d,i18,hr19,q22a,q22b,q22c,q22d,q22e,ax60,q62,ax63,ax64,q66,ax64,q68,Zg,ax83,q85,ax86]
           rw[an]
           refine⟨_,rfl,?_⟩
           refine⟨v9g,v10g,v12g,z10g,?_,?_,?_,?_,?_,?_,?_,?_,?_,?_,?_,?_⟩
           all_goals first|rfl|(simp only[aS,seval,-Int.reduceToNat,hr1,i14,hr15,q17a,q17b,q17c,q17d,i18,hr19,q22a,q22b,q22c,q22d,q22e,ax60,q62,ax63,ax64,q66,ax64,q68,Zg,ax83,q85,ax86]<;>rfl)
          ·try simp only[aS,seval,-Int.reduceToNat,hr1,i14,hr15,q17a,q17b,q17c,q17d,i18,hr19,q22a,q22b,q22c,q22d,q22e,ax60,q62,ax63,ax64,q66,ax64,q68,Zg]
           refine cj (by kernel_rfl) ?_
           cases hh
           try simp only[aS,seval,-Int.reduceToNat,hr1,i14,hr15,q17a,q17b,q17c,q17d,i18,hr19,q22a,q22b,q22c,q22d,q22e,ax60,q62,ax63,ax64,q66,ax64,q68,Zg]
           rw[an]
           refine⟨_,rfl,?_⟩
           refine⟨v9g,v10g,v12g,z10g,?_,?_,?_,?_,?_,?_,?_,?_,?_,?_,?_,?_⟩
           all_goals first|rfl|(simp only[aS,seval,-Int.reduceToNat,hr1,i14,hr15,q17a,q17b,q17c,q17d,i18,hr19,q22a,q22b,q22c,q22d,q22e,ax60,q62,ax63,ax64,q66,ax64,q68,Zg]<;>rfl)
       ·rintro x t H e hx
        obtain⟨s15gx,rfl⟩:∃z,z=o78:=⟨_,rfl⟩
        dsimp only at hx hh
        obtain⟨rfl,⟨v9gx,v10gx,v12gx,z10gx,Zgx⟩⟩:=hx
        obtain⟨x87,hx87,hh⟩:=ae hh
        obtain⟨q88a,q88b,q88c,q88d,q88e⟩:=VL (eI .i64) hx87
        simp only[bZ]at q88e
        have i89:=Ce (ab (eI .i64) (l9c.take (s13c).toNat)) (ab (eI .i64) (l9c.drop (IntKind.i64.wrap ((IntKind.i64.wrap (s13c+((r19).length:Int)))+1)).toNat)) x87 r19 s15gx
        simp only[Uk,Ul (eI .i64) hx87,Um (eI .i64) hx87,U9 hx87,bZ,Int.toNat_zero,Nat.zero_mul,Nat.sub_zero]at i89
        obtain⟨r90,hr90,hh⟩:=ae hh
        have q91l:=xS hr90
        have q91m:=Td hx87 q91l
        obtain⟨x92,hx92,hh⟩:=ae hh
        have ax92:=bH (eI .i64) hx92
        simp only[bZ]at ax92
        have p93:=jJ (eI .i64) (x':=r90.2) (fo:=0) (cs:=[.int .i64 r90.2]) hx92 rfl (Nat.le_of_ble_eq_true rfl)
        simp only[bZ,Nat.add_zero]at p93
        have up93:=p93
        simp only[putCells,List.length_cons,List.length_nil,Nat.zero_add,Nat.reduceAdd]at up93
        cases hh
        try simp only[aS,seval,-Int.reduceToNat,hr1,i14,hr15,q17a,q17b,q17c,q17d,i18,hr19,q22a,q22b,q22c,q22d,q22e,ax60,q62,ax63,ax64,q66,ax64,q68,Zgx,q88a,q88b,q88c,q88e,i89,hr90,q91m,ax92,p93,up93]
        refine jg ?_
        refine⟨v9gx,v10gx,v12gx,true,?_,?_,?_,?_,?_,?_,?_,?_,?_⟩
        all_goals first|rfl|(simp only[aS,seval,-Int.reduceToNat,hr1,i14,hr15,q17a,q17b,q17c,q17d,i18,hr19,q22a,q22b,q22c,q22d,q22e,ax60,q62,ax63,ax64,q66,ax64,q68,Zgx,q88a,q88b,q88c,q88e,i89,hr90,q91m,ax92,p93,up93]<;>rfl)
      ·cases hh
       try simp only[aS,seval,-Int.reduceToNat,hr1,i14,hr15,q17a,q17b,q17c,q17d,i18,hr19,q22a,q22b,q22c,q22d,q22e,Zc]
       refine kX ?_
       refine⟨rfl,⟨v9c,v12c,?_,?_,?_,?_,?_⟩⟩
       all_goals first|rfl|(simp only[aS,seval,-Int.reduceToNat,hr1,i14,hr15,q17a,q17b,q17c,q17d,i18,hr19,q22a,q22b,q22c,q22d,q22e,Zc]<;>rfl)
     ·rintro x t H e hx
      rcases o58 with⟨l9cx,l12cx⟩
      dsimp only at hx hh
      obtain⟨rfl,⟨v9cx,v12cx,Zcx⟩⟩:=hx
      obtain⟨r94,hr94,hh⟩:=ae hh
      obtain⟨r95,hr95,hh⟩:=ae hh
      obtain⟨r96,hr96,hh⟩:=ae hh
      cases hh
      try simp only[aS,seval,-Int.reduceToNat,hr1,i14,hr15,q17a,q17b,q17c,q17d,i18,hr19,q22a,q22b,q22c,q22d,q22e,Zcx,hr94,hr95,hr96]
    ·clear hh
     have hh:=ho20
     try simp only[aS,seval,-Int.reduceToNat,hr1,Zax,i14,hr15,q17a,q17b,q17c,q17d,i18,hr19]
     refine sp ak hh (fun _ hh =>?_) (fun _ hh =>?_)
     ·obtain⟨x98,hx98,hh⟩:=ae hh
      obtain⟨q99a,q99b,q99c,q99d⟩:=ey (eI .i64) hx98
      simp only[bZ]at q99b
      cases hh
      try simp only[aS,seval,-Int.reduceToNat,hr1,Zax,i14,hr15,q17a,q17b,q17c,q17d,i18,hr19,q99a,q99b,q99c,q99d]
      rw[an]
      refine⟨_,rfl,?_⟩
      refine⟨e+1+1,e,?_,?_,?_,?_,?_⟩
      all_goals first|rfl|(simp only[aS,seval,-Int.reduceToNat,hr1,Zax,i14,hr15,q17a,q17b,q17c,q17d,i18,hr19,q99a,q99b,q99c,q99d]<;>rfl)
     ·cases hh
      try simp only[aS,seval,-Int.reduceToNat,hr1,Zax,i14,hr15,q17a,q17b,q17c,q17d,i18,hr19]
      rw[an]
      refine⟨_,rfl,?_⟩
      refine⟨e,e,?_,?_,?_,?_,?_⟩
      all_goals first|rfl|(simp only[aS,seval,-Int.reduceToNat,hr1,Zax,i14,hr15,q17a,q17b,q17c,q17d,i18,hr19]<;>rfl)
theorem L1:bM Tryz.prog 125 xq:=bM.of (mode := .clean) tok Ll mixed Tryz.func125 (by kernel_rfl) ⟨by kernel_rfl,by kernel_rfl⟩ (fun _=>Nat.le_of_ble_eq_true (by kernel_rfl)) (fun x r h=>Po x.1 x.2 r h)
noncomputable def ki:=eN (dU (aI .i64) (dR (iI (eI .i64)))) (fun x:Int×(List Int)=>fw x.1 x.2) (fun r:ay =>.clean (.agg [.int .i64 r.ah,.sl false false r.aa.length (ab (eI .i64) r.aa)]))
theorem jb (p0:Int) (p1:(List Int)):ki none [.int .i64 p0,.sl false false p1.length (ab (eI .i64) p1)]=(fw p0 p1).map fun r:ay=>(.clean (.agg [.int .i64 r.ah,.sl false false r.aa.length (ab (eI .i64) r.aa)]),none):=aJ _ _ _ (p0,p1)
noncomputable def mM:Env:=(Am.ext aV 163 false nD)
theorem C1:bR Tryz.prog mM:=(bR.none.add tf false)
theorem ru:type_of% (ai @w<|ai @jP<|@mM.eq_1):=⟨@w,@jP,@mM.eq_1⟩
theorem Gx (p0:Int) (p1:(List Int)) (r:ay) (hh:fw p0 p1=some r):aP .clean tab mM FU Tryz.f126 none [.int .i64 p0,.sl false false p1.length (ab (eI .i64) p1)]=some (.clean (.agg [.int .i64 r.ah,.sl false false r.aa.length (ab (eI .i64) r.aa)]),none):=by
 refine ax rfl Tryz.ntmps126 Tryz.results126 ?_
 unfold fw at hh
 obtain⟨r1,hr1,hh⟩:=ae hh
 try simp only[ru,seval,-Int.reduceToNat,hr1]
 refine sp ak hh (fun _ hh =>?_) (fun _ hh =>?_)
 ·cases hh
  try simp only[ru,seval,-Int.reduceToNat,hr1]
 ·cases hh
  try simp only[ru,seval,-Int.reduceToNat,hr1]
theorem pe:bM Tryz.prog 126 ki:=bM.of (mode := .clean) tok C1 mixed Tryz.func126 (by kernel_rfl) ⟨by kernel_rfl,by kernel_rfl⟩ (fun _=>Nat.le_of_ble_eq_true (by kernel_rfl)) (fun x r h=>Gx x.1 x.2 r h)
noncomputable def xn:=eN (dU (dm ib) (dR (dm ib))) (fun x:ay×ay=>qk x.1 x.2) (fun r:ay×Int =>.clean (.tup [.agg [.int .i64 r.1.ah,.sl false false r.1.aa.length (ab (eI .i64) r.1.aa)],.int .i64 r.2]))
theorem Ff (p0_0:Int) (p0_1:(List Int)) (p1_0:Int) (p1_1:(List Int)):xn none [.agg [.int .i64 p0_0,.sl false false p0_1.length (ab (eI .i64) p0_1)],.agg [.int .i64 p1_0,.sl false false p1_1.length (ab (eI .i64) p1_1)]]=(qk (ay.mk p0_0 p0_1) (ay.mk p1_0 p1_1)).map fun r:ay×Int=>(.clean (.tup [.agg [.int .i64 r.1.ah,.sl false false r.1.aa.length (ab (eI .i64) r.1.aa)],.int .i64 r.2]),none):=aJ _ _ _ ((ay.mk p0_0 p0_1),(ay.mk p1_0 p1_1))
noncomputable def tQ:Env:=(Am.keep 6 (Am.ext (Am.ext (Am.ext (Am.ext (Am.ext aV 65 false eO) 97 false iL) 124 false lD) 125 false xq) 126 false ki))
theorem Li:bR Tryz.prog tQ:=(bR.keep (((((bR.none.add gW false).add kD false).add td false).add L1 false).add pe false) 6)
theorem dO:type_of% (ai @w<|ai @dy<|ai @fi<|ai @im<|ai @Fi<|ai @jb<|@tQ.eq_1):=⟨@w,@dy,@fi,@im,@Fi,@jb,@tQ.eq_1⟩
theorem Pk (p0:ay) (p1:ay) (r:ay×Int) (hh:qk p0 p1=some r):aP .clean tab tQ FU Tryz.f98 none [.agg [.int .i64 p0.ah,.sl false false p0.aa.length (ab (eI .i64) p0.aa)],.agg [.int .i64 p1.ah,.sl false false p1.aa.length (ab (eI .i64) p1.aa)]]=some (.clean (.tup [.agg [.int .i64 r.1.ah,.sl false false r.1.aa.length (ab (eI .i64) r.1.aa)],.int .i64 r.2]),none):=by
 refine ax rfl Tryz.ntmps98 Tryz.results98 ?_
 unfold qk at hh
 obtain⟨r1,hr1,hh⟩:=ae hh
 try simp only[dO,seval,-Int.reduceToNat,hr1]
 obtain⟨o2,ho2,hh⟩:=ae hh
 refine bW 0 (fun s t H e=>match s with|s17j1=>∃v2j1:Nat,∃v3j1:Nat,∃v4j1:Nat,t 2=.ptr 2 v2j1 0∧t 3=.ptr 3 v3j1 0∧t 4=.ptr 4 v4j1 0∧t 17=.bool s17j1∧H 2=some ⟨v2j1,49,[.int .i64 p0.ah,.sl false false p0.aa.length (ab (eI .i64) p0.aa)],false,false,false⟩∧H 3=some ⟨v3j1,49,[.int .i64 p1.ah,.sl false false p1.aa.length (ab (eI .i64) p1.aa)],false,false,false⟩∧H 4=some ⟨v4j1,49,[.int .i64 0,.sl true true 0 []],false,false,false⟩) (fun s=>s=o2) ?_ ?_
 ·rintro s17j1 t H e ⟨v2j1,v3j1,v4j1,Zj1⟩ rfl
  try dsimp only at hh
  try simp only[dO,seval,-Int.reduceToNat,hr1,Zj1]
  refine sp ak hh (fun _ hh =>?_) (fun _ hh =>?_)
  ·have i4:=im false 0 ([])
   simp only[aN,bZ,List.length_cons,List.length_nil,Nat.zero_add,Nat.reduceAdd,List.length_set]at i4
   obtain⟨r5,hr5,hh⟩:=ae hh
   cases hh
   try simp only[dO,seval,-Int.reduceToNat,hr1,Zj1,i4,hr5]
  ·obtain⟨r6,hr6,hh⟩:=ae hh
   try simp only[dO,seval,-Int.reduceToNat,hr1,Zj1,hr6]
   refine cj (by kernel_rfl) ?_
   try simp only[dO,seval,-Int.reduceToNat,hr1,Zj1,hr6]
   obtain⟨o9,ho9,hh⟩:=ae hh
   refine az (fun s t H e=>match s with|(s6b,s7b)=>∃v4b:Nat,t 4=.ptr 4 v4b 0∧t 6=.sl false false s6b.length (ab (eI .i64) s6b)∧t 7=.sl false false s7b.length (ab (eI .i64) s7b)∧H 4=some ⟨v4b,49,[.int .i64 0,.sl true true 0 []],false,false,false⟩) (fun o x t H e=>match o with|s6bx=>x=.exit 0∧∃v4bx:Nat,t 4=.ptr 4 v4bx 0∧t 6=.sl false false s6bx.length (ab (eI .i64) s6bx)∧H 4=some ⟨v4bx,49,[.int .i64 0,.sl true true 0 []],false,false,false⟩) ho9 ?_ ?_ ?_
   ·refine⟨v4j1,?_,?_,?_,?_⟩
    all_goals first|rfl|(simp only[dO,seval,-Int.reduceToNat,hr1,Zj1,hr6]<;>rfl)
   ·rintro⟨s6b,s7b⟩ t H e ⟨v4b,Zb⟩ c hh
    simp only[nH]at hh
    try simp only[dO,seval,-Int.reduceToNat,hr1,hr6,Zb]
    refine sp ak hh (fun _ hh =>?_) (fun _ hh =>?_)
    ·obtain⟨r11,hr11,hh⟩:=ae hh
     cases hh
     try simp only[dO,seval,-Int.reduceToNat,hr1,hr6,Zb,hr11]
     refine jg ?_
     refine⟨v4b,?_,?_,?_,?_⟩
     all_goals first|rfl|(simp only[dO,seval,-Int.reduceToNat,hr1,hr6,Zb,hr11]<;>rfl)
    ·cases hh
     try simp only[dO,seval,-Int.reduceToNat,hr1,hr6,Zb]
     refine kX ?_
     refine⟨rfl,⟨v4b,?_,?_,?_⟩⟩
     all_goals first|rfl|(simp only[dO,seval,-Int.reduceToNat,hr1,hr6,Zb]<;>rfl)
   ·rintro x t H e hx
    obtain⟨s6bx,rfl⟩:∃z,z=o9:=⟨_,rfl⟩
    dsimp only at hx hh
    obtain⟨rfl,⟨v4bx,Zbx⟩⟩:=hx
    obtain⟨r12,hr12,hh⟩:=ae hh
    obtain⟨r13,hr13,hh⟩:=ae hh
    obtain⟨r14,hr14,hh⟩:=ae hh
    cases hh
    try simp only[dO,seval,-Int.reduceToNat,hr1,hr6,Zbx,hr12,hr13,hr14]
 ·clear hh
  have hh:=ho2
  try simp only[dO,seval,-Int.reduceToNat,hr1]
  refine sp aX hh (fun _ hh =>?_) (fun _ hh =>?_)
  ·cases hh
   try simp only[dO,seval,-Int.reduceToNat,hr1]
   rw[an]
   refine⟨_,rfl,?_⟩
   refine⟨0,0,0,?_,?_,?_,?_,?_,?_,?_⟩
   all_goals first|rfl|(simp only[dO,seval,-Int.reduceToNat,hr1]<;>rfl)
  ·obtain⟨r16,hr16,hh⟩:=ae hh
   cases hh
   try simp only[dO,seval,-Int.reduceToNat,hr1,hr16]
   rw[an]
   refine⟨_,rfl,?_⟩
   refine⟨0,0,0,?_,?_,?_,?_,?_,?_,?_⟩
   all_goals first|rfl|(simp only[dO,seval,-Int.reduceToNat,hr1,hr16]<;>rfl)
theorem LY:bM Tryz.prog 98 xn:=bM.of (mode := .clean) tok Li mixed Tryz.func98 (by kernel_rfl) ⟨by kernel_rfl,by kernel_rfl⟩ (fun _=>Nat.le_of_ble_eq_true (by kernel_rfl)) (fun x r h=>Pk x.1 x.2 r h)
noncomputable def xo:=eN (dR (dm ib)) (fun x:ay=>ql x) (fun r:Int×Bool =>.clean (.tup [.int .i64 r.1,.bool r.2]))
theorem Fg (p0_0:Int) (p0_1:(List Int)):xo none [.agg [.int .i64 p0_0,.sl false false p0_1.length (ab (eI .i64) p0_1)]]=(ql (ay.mk p0_0 p0_1)).map fun r:Int×Bool=>(.clean (.tup [.int .i64 r.1,.bool r.2]),none):=aJ _ _ _ ((ay.mk p0_0 p0_1))
noncomputable def tR:Env:=(Am.ext aV 97 false iL)
theorem Lj:bR Tryz.prog tR:=(bR.none.add kD false)
theorem bm:type_of% (ai @w<|ai @fi<|@tR.eq_1):=⟨@w,@fi,@tR.eq_1⟩
theorem Pm (p0:ay) (r:Int×Bool) (hh:ql p0=some r):aP .clean tab tR FU Tryz.f127 none [.agg [.int .i64 p0.ah,.sl false false p0.aa.length (ab (eI .i64) p0.aa)]]=some (.clean (.tup [.int .i64 r.1,.bool r.2]),none):=by
 refine ax rfl Tryz.ntmps127 Tryz.results127 ?_
 unfold ql at hh
 obtain⟨r1,hr1,hh⟩:=ae hh
 try simp only[bm,seval,-Int.reduceToNat,hr1]
 obtain⟨o2,ho2,hh⟩:=ae hh
 refine bW 0 (fun s t H e=>match s with|s15j1=>∃v1j1:Nat,t 1=.ptr 1 v1j1 0∧t 15=.bool s15j1∧H 1=some ⟨v1j1,49,[.int .i64 p0.ah,.sl false false p0.aa.length (ab (eI .i64) p0.aa)],false,false,false⟩) (fun s=>s=o2) ?_ ?_
 ·rintro s15j1 t H e ⟨v1j1,Zj1⟩ rfl
  try dsimp only at hh
  try simp only[bm,seval,-Int.reduceToNat,hr1,Zj1]
  refine sp ak hh (fun _ hh =>?_) (fun _ hh =>?_)
  ·cases hh
   try simp only[bm,seval,-Int.reduceToNat,hr1,Zj1]
  ·try simp only[bm,seval,-Int.reduceToNat,hr1,Zj1]
   obtain⟨o11,ho11,hh⟩:=ae hh
   refine az (fun s t H e=>match s with|(s4b,s19b)=>∃v1b:Nat,t 1=.ptr 1 v1b 0∧t 4=.int .u64 s4b∧t 17=.sl false false p0.aa.length (ab (eI .i64) p0.aa)∧t 18=.int .i64 (p0.aa.length:Int)∧t 19=.int .i64 s19b∧H 1=some ⟨v1b,49,[.int .i64 p0.ah,.sl false false p0.aa.length (ab (eI .i64) p0.aa)],false,false,false⟩) (fun o x t H e=>match o with|(.inl s4bx)=>x=.exit 0∧∃v1bx:Nat,t 1=.ptr 1 v1bx 0∧t 4=.int .u64 s4bx∧H 1=some ⟨v1bx,49,[.int .i64 p0.ah,.sl false false p0.aa.length (ab (eI .i64) p0.aa)],false,false,false⟩|(.inr r)=>x=.ret∧gT .clean tab none [.tmp 2,.tmp 3] ⟨t,H,e⟩=some (.clean (.tup [.int .i64 r.1,.bool r.2]),none)) ho11 ?_ ?_ ?_
   ·refine⟨v1j1,?_,?_,?_,?_,?_,?_⟩
    all_goals first|rfl|(simp only[bm,seval,-Int.reduceToNat,hr1,Zj1]<;>rfl)
   ·rintro⟨s4b,s19b⟩ t H e ⟨v1b,Zb⟩ c hh
    simp only[qm]at hh
    try simp only[bm,seval,-Int.reduceToNat,hr1,Zb]
    refine sp ak hh (fun _ hh =>?_) (fun _ hh =>?_)
    ·obtain⟨x13,hx13,hh⟩:=ae hh
     have ax13:=bH (eI .i64) hx13
     simp only[bZ]at ax13
     try simp only[bm,seval,-Int.reduceToNat,hr1,Zb,ax13]
     obtain⟨o14,ho14,hh⟩:=ae hh
     refine bW 0 (fun s t H e=>match s with|s29j4=>∃v1j4:Nat,t 1=.ptr 1 v1j4 0∧t 4=.int .u64 s4b∧t 5=.int .i64 s19b∧t 6=.int .i64 x13∧t 17=.sl false false p0.aa.length (ab (eI .i64) p0.aa)∧t 18=.int .i64 (p0.aa.length:Int)∧t 19=.int .i64 s19b∧t 29=.bool s29j4∧H 1=some ⟨v1j4,49,[.int .i64 p0.ah,.sl false false p0.aa.length (ab (eI .i64) p0.aa)],false,false,false⟩) (fun s=>s=o14) ?_ ?_
     ·rintro s29j4 t H e ⟨v1j4,Zj4⟩ rfl
      try dsimp only at hh
      try simp only[bm,seval,-Int.reduceToNat,hr1,ax13,Zj4]
      refine sp ak hh (fun _ hh =>?_) (fun _ hh =>?_)
      ·cases hh
       try simp only[bm,seval,-Int.reduceToNat,hr1,ax13,Zj4]
       refine yW ⟨rfl,?_⟩
       try simp only[bm,seval,-Int.reduceToNat,hr1,ax13,Zj4]
      ·obtain⟨x16,hx16,hh⟩:=ae hh
       have q17:=Ae hx16
       cases hh
       try simp only[bm,seval,-Int.reduceToNat,hr1,ax13,Zj4,q17]
       refine jg ?_
       refine⟨v1j4,?_,?_,?_,?_,?_,?_⟩
       all_goals first|rfl|(simp only[bm,seval,-Int.reduceToNat,hr1,ax13,Zj4,q17]<;>rfl)
     ·clear hh
      have hh:=ho14
      try simp only[bm,seval,-Int.reduceToNat,hr1,Zb,ax13]
      refine sp bB hh (fun _ hh =>?_) (fun _ hh =>?_)
      ·cases hh
       try simp only[bm,seval,-Int.reduceToNat,hr1,Zb,ax13]
       rw[an]
       refine⟨_,rfl,?_⟩
       refine⟨v1b,?_,?_,?_,?_,?_,?_,?_,?_,?_⟩
       all_goals first|rfl|(simp only[bm,seval,-Int.reduceToNat,hr1,Zb,ax13]<;>rfl)
      ·cases hh
       try simp only[bm,seval,-Int.reduceToNat,hr1,Zb,ax13]
       rw[an]
       refine⟨_,rfl,?_⟩
       refine⟨v1b,?_,?_,?_,?_,?_,?_,?_,?_,?_⟩
       all_goals first|rfl|(simp only[bm,seval,-Int.reduceToNat,hr1,Zb,ax13]<;>rfl)
    ·cases hh
     try simp only[bm,seval,-Int.reduceToNat,hr1,Zb]
     refine kX ?_
     refine⟨rfl,⟨v1b,?_,?_,?_⟩⟩
     all_goals first|rfl|(simp only[bm,seval,-Int.reduceToNat,hr1,Zb]<;>rfl)
   ·rintro x t H e hx
    rcases o11 with s4bx|rb
    ·dsimp only at hx hh
     obtain⟨rfl,⟨v1bx,Zbx⟩⟩:=hx
     try simp only[bm,seval,-Int.reduceToNat,hr1,Zbx]
     obtain⟨o19,ho19,hh⟩:=ae hh
     refine bW 0 (fun s t H e=>match s with|s38j5=>∃v1j5:Nat,t 1=.ptr 1 v1j5 0∧t 4=.int .u64 s4bx∧t 38=.bool s38j5∧H 1=some ⟨v1j5,49,[.int .i64 p0.ah,.sl false false p0.aa.length (ab (eI .i64) p0.aa)],false,false,false⟩) (fun s=>s=o19) ?_ ?_
     ·rintro s38j5 t H e ⟨v1j5,Zj5⟩ rfl
      try dsimp only at hh
      try simp only[bm,seval,-Int.reduceToNat,hr1,Zj5]
      refine sp ak hh (fun _ hh =>?_) (fun _ hh =>?_)
      ·cases hh
       try simp only[bm,seval,-Int.reduceToNat,hr1,Zj5]
      ·try simp only[bm,seval,-Int.reduceToNat,hr1,Zj5]
       refine sp bB hh (fun _ hh =>?_) (fun _ hh =>?_)
       ·try simp only[bm,seval,-Int.reduceToNat,hr1,Zj5]
        refine sp ak hh (fun _ hh =>?_) (fun _ hh =>?_)
        ·cases hh
         try simp only[bm,seval,-Int.reduceToNat,hr1,Zj5]
        ·cases hh
         try simp only[bm,seval,-Int.reduceToNat,hr1,Zj5]
       ·cases hh
        try simp only[bm,seval,-Int.reduceToNat,hr1,Zj5]
     ·clear hh
      have hh:=ho19
      try simp only[bm,seval,-Int.reduceToNat,hr1,Zbx]
      refine sp bB hh (fun _ hh =>?_) (fun _ hh =>?_)
      ·cases hh
       try simp only[bm,seval,-Int.reduceToNat,hr1,Zbx]
       rw[an]
       refine⟨_,rfl,?_⟩
       refine⟨v1bx,?_,?_,?_,?_⟩
       all_goals first|rfl|(simp only[bm,seval,-Int.reduceToNat,hr1,Zbx]<;>rfl)
      ·cases hh
       try simp only[bm,seval,-Int.reduceToNat,hr1,Zbx]
       rw[an]
       refine⟨_,rfl,?_⟩
       refine⟨v1bx,?_,?_,?_,?_⟩
       all_goals first|rfl|(simp only[bm,seval,-Int.reduceToNat,hr1,Zbx]<;>rfl)
    ·dsimp only at hx hh
     obtain⟨rfl,hE⟩:=hx
     cases hh
     try simp only[bq,bh,bF,dw,du]
     exact hE
 ·clear hh
  have hh:=ho2
  try simp only[bm,seval,-Int.reduceToNat,hr1]
  refine sp aX hh (fun _ hh =>?_) (fun _ hh =>?_)
  ·cases hh
   try simp only[bm,seval,-Int.reduceToNat,hr1]
   rw[an]
   refine⟨_,rfl,?_⟩
   refine⟨0,?_,?_,?_⟩
   all_goals first|rfl|(simp only[bm,seval,-Int.reduceToNat,hr1]<;>rfl)
  ·cases hh
   try simp only[bm,seval,-Int.reduceToNat,hr1]
   rw[an]
   refine⟨_,rfl,?_⟩
   refine⟨0,?_,?_,?_⟩
   all_goals first|rfl|(simp only[bm,seval,-Int.reduceToNat,hr1]<;>rfl)
theorem LZ:bM Tryz.prog 127 xo:=bM.of (mode := .clean) tok Lj mixed Tryz.func127 (by kernel_rfl) ⟨by kernel_rfl,by kernel_rfl⟩ (fun _=>Nat.le_of_ble_eq_true (by kernel_rfl)) (fun x r h=>Pm x r h)
noncomputable def vg:=eN (dR (dm ib)) (fun x:ay=>nU x) (fun r:Bool =>.clean (.bool r))
theorem Ch (p0_0:Int) (p0_1:(List Int)):vg none [.agg [.int .i64 p0_0,.sl false false p0_1.length (ab (eI .i64) p0_1)]]=(nU (ay.mk p0_0 p0_1)).map fun r:Bool=>(.clean (.bool r),none):=aJ _ _ _ ((ay.mk p0_0 p0_1))
noncomputable def qC:Env:=(Am.ext aV 127 false xo)
theorem IL:bR Tryz.prog qC:=(bR.none.add LZ false)
theorem vM:type_of% (ai @w<|ai @Fg<|@qC.eq_1):=⟨@w,@Fg,@qC.eq_1⟩
theorem LM (p0:ay) (r:Bool) (hh:nU p0=some r):aP .clean tab qC FU Tryz.f99 none [.agg [.int .i64 p0.ah,.sl false false p0.aa.length (ab (eI .i64) p0.aa)]]=some (.clean (.bool r),none):=by
 refine ax rfl Tryz.ntmps99 Tryz.results99 ?_
 unfold nU at hh
 obtain⟨r1,hr1,hh⟩:=ae hh
 try simp only[vM,seval,-Int.reduceToNat,hr1]
 refine sp bB hh (fun _ hh =>?_) (fun _ hh =>?_)
 ·cases hh
  try simp only[vM,seval,-Int.reduceToNat,hr1]
 ·cases hh
  try simp only[vM,seval,-Int.reduceToNat,hr1]
theorem J2:bM Tryz.prog 99 vg:=bM.of (mode := .clean) tok IL mixed Tryz.func99 (by kernel_rfl) ⟨by kernel_rfl,by kernel_rfl⟩ (fun _=>Nat.le_of_ble_eq_true (by kernel_rfl)) (fun x r h=>LM x r h)
noncomputable def kl:=eN (dR (dm lj)) (fun x:aT=>eS x) (fun r:Bool =>.clean (.bool r))
theorem jc (p0_0:Int) (p0_1:(List Int)) (p0_2:Int) (p0_3:(List Int)):kl none [.agg [.int .i64 p0_0,.sl false false p0_1.length (ab (eI .i64) p0_1),.int .i64 p0_2,.sl false false p0_3.length (ab (eI .i64) p0_3)]]=(eS (aT.mk (ay.mk p0_0 p0_1) (ay.mk p0_2 p0_3))).map fun r:Bool=>(.clean (.bool r),none):=aJ _ _ _ ((aT.mk (ay.mk p0_0 p0_1) (ay.mk p0_2 p0_3)))
noncomputable def mN:Env:=(Am.ext (Am.ext (Am.ext aV 97 false iL) 98 false xn) 99 false vg)
theorem C2:bR Tryz.prog mN:=(((bR.none.add kD false).add LY false).add J2 false)
theorem cX:type_of% (ai @w<|ai @fi<|ai @Ff<|ai @Ch<|@mN.eq_1):=⟨@w,@fi,@Ff,@Ch,@mN.eq_1⟩
theorem Gz (p0:aT) (r:Bool) (hh:eS p0=some r):aP .clean tab mN FU Tryz.f57 none [.agg [.int .i64 p0.cu.ah,.sl false false p0.cu.aa.length (ab (eI .i64) p0.cu.aa),.int .i64 p0.ct.ah,.sl false false p0.ct.aa.length (ab (eI .i64) p0.ct.aa)]]=some (.clean (.bool r),none):=by
 refine ax rfl Tryz.ntmps57 Tryz.results57 ?_
 unfold eS at hh
 obtain⟨r1,hr1,hh⟩:=ae hh
 try simp only[cX,seval,-Int.reduceToNat,hr1]
 obtain⟨o2,ho2,hh⟩:=ae hh
 refine bW 0 (fun s t H e=>match s with|s20j1=>∃v1j1:Nat,t 1=.ptr 1 v1j1 0∧t 20=.bool s20j1∧H 1=some ⟨v1j1,51,[.int .i64 p0.cu.ah,.sl false false p0.cu.aa.length (ab (eI .i64) p0.cu.aa),.int .i64 p0.ct.ah,.sl false false p0.ct.aa.length (ab (eI .i64) p0.ct.aa)],false,false,false⟩) (fun s=>s=o2) ?_ ?_
 ·rintro s20j1 t H e ⟨v1j1,Zj1⟩ rfl
  try dsimp only at hh
  try simp only[cX,seval,-Int.reduceToNat,hr1,Zj1]
  refine sp ak hh (fun _ hh =>?_) (fun _ hh =>?_)
  ·cases hh
   try simp only[cX,seval,-Int.reduceToNat,hr1,Zj1]
  ·obtain⟨r4,hr4,hh⟩:=ae hh
   try simp only[cX,seval,-Int.reduceToNat,hr1,Zj1,hr4]
   refine sp bB hh (fun _ hh =>?_) (fun _ hh =>?_)
   ·obtain⟨r6,hr6,hh⟩:=ae hh
    cases hh
    try simp only[cX,seval,-Int.reduceToNat,hr1,Zj1,hr4,hr6]
   ·cases hh
    try simp only[cX,seval,-Int.reduceToNat,hr1,Zj1,hr4]
 ·clear hh
  have hh:=ho2
  try simp only[cX,seval,-Int.reduceToNat,hr1]
  refine sp aX hh (fun _ hh =>?_) (fun _ hh =>?_)
  ·cases hh
   try simp only[cX,seval,-Int.reduceToNat,hr1]
   rw[an]
   refine⟨_,rfl,?_⟩
   refine⟨0,?_,?_,?_⟩
   all_goals first|rfl|(simp only[cX,seval,-Int.reduceToNat,hr1]<;>rfl)
  ·obtain⟨r8,hr8,hh⟩:=ae hh
   try simp only[cX,seval,-Int.reduceToNat,hr1,hr8]
   refine sp aX hh (fun _ hh =>?_) (fun _ hh =>?_)
   ·cases hh
    try simp only[cX,seval,-Int.reduceToNat,hr1,hr8]
    rw[an]
    refine⟨_,rfl,?_⟩
    refine⟨0,?_,?_,?_⟩
    all_goals first|rfl|(simp only[cX,seval,-Int.reduceToNat,hr1,hr8]<;>rfl)
   ·cases hh
    try simp only[cX,seval,-Int.reduceToNat,hr1,hr8]
    rw[an]
    refine⟨_,rfl,?_⟩
    refine⟨0,?_,?_,?_⟩
    all_goals first|rfl|(simp only[cX,seval,-Int.reduceToNat,hr1,hr8]<;>rfl)
theorem pf:bM Tryz.prog 57 kl:=bM.of (mode := .clean) tok C2 mixed Tryz.func57 (by kernel_rfl) ⟨by kernel_rfl,by kernel_rfl⟩ (fun _=>Nat.le_of_ble_eq_true (by kernel_rfl)) (fun x r h=>Gz x r h)
noncomputable def xp:=eN (dU (dm ib) (dR (dm ib))) (fun x:ay×ay=>qn x.1 x.2) (fun r:ay×Int =>.clean (.tup [.agg [.int .i64 r.1.ah,.sl false false r.1.aa.length (ab (eI .i64) r.1.aa)],.int .i64 r.2]))
theorem Fh (p0_0:Int) (p0_1:(List Int)) (p1_0:Int) (p1_1:(List Int)):xp none [.agg [.int .i64 p0_0,.sl false false p0_1.length (ab (eI .i64) p0_1)],.agg [.int .i64 p1_0,.sl false false p1_1.length (ab (eI .i64) p1_1)]]=(qn (ay.mk p0_0 p0_1) (ay.mk p1_0 p1_1)).map fun r:ay×Int=>(.clean (.tup [.agg [.int .i64 r.1.ah,.sl false false r.1.aa.length (ab (eI .i64) r.1.aa)],.int .i64 r.2]),none):=aJ _ _ _ ((ay.mk p0_0 p0_1),(ay.mk p1_0 p1_1))
noncomputable def tS:Env:=(Am.ext (Am.ext (Am.ext (Am.ext aV 97 false iL) 124 false lD) 126 false ki) 164 false tE)
theorem Lk:bR Tryz.prog tS:=((((bR.none.add kD false).add td false).add pe false).add B6 false)
theorem iy:type_of% (ai @w<|ai @fi<|ai @im<|ai @jb<|ai @ny<|@tS.eq_1):=⟨@w,@fi,@im,@jb,@ny,@tS.eq_1⟩
theorem Pn (p0:ay) (p1:ay) (r:ay×Int) (hh:qn p0 p1=some r):aP .clean tab tS FU Tryz.f130 none [.agg [.int .i64 p0.ah,.sl false false p0.aa.length (ab (eI .i64) p0.aa)],.agg [.int .i64 p1.ah,.sl false false p1.aa.length (ab (eI .i64) p1.aa)]]=some (.clean (.tup [.agg [.int .i64 r.1.ah,.sl false false r.1.aa.length (ab (eI .i64) r.1.aa)],.int .i64 r.2]),none):=by
 refine ax rfl Tryz.ntmps130 Tryz.results130 ?_
 unfold qn at hh
 obtain⟨r1,hr1,hh⟩:=ae hh
 try simp only[iy,seval,-Int.reduceToNat,hr1]
 obtain⟨o2,ho2,hh⟩:=ae hh
 refine bW 0 (fun s t H e=>match s with|s13j1=>∃v2j1:Nat,∃v3j1:Nat,∃v4j1:Nat,t 2=.ptr 2 v2j1 0∧t 3=.ptr 3 v3j1 0∧t 4=.ptr 4 v4j1 0∧t 13=.bool s13j1∧H 2=some ⟨v2j1,49,[.int .i64 p0.ah,.sl false false p0.aa.length (ab (eI .i64) p0.aa)],false,false,false⟩∧H 3=some ⟨v3j1,49,[.int .i64 p1.ah,.sl false false p1.aa.length (ab (eI .i64) p1.aa)],false,false,false⟩∧H 4=some ⟨v4j1,49,[.int .i64 0,.sl true true 0 []],false,false,false⟩) (fun s=>s=o2) ?_ ?_
 ·rintro s13j1 t H e ⟨v2j1,v3j1,v4j1,Zj1⟩ rfl
  try dsimp only at hh
  try simp only[iy,seval,-Int.reduceToNat,hr1,Zj1]
  refine sp ak hh (fun _ hh =>?_) (fun _ hh =>?_)
  ·have i4:=im false 0 ([])
   simp only[aN,bZ,List.length_cons,List.length_nil,Nat.zero_add,Nat.reduceAdd,List.length_set]at i4
   obtain⟨r5,hr5,hh⟩:=ae hh
   cases hh
   try simp only[iy,seval,-Int.reduceToNat,hr1,Zj1,i4,hr5]
  ·obtain⟨r6,hr6,hh⟩:=ae hh
   obtain⟨r7,hr7,hh⟩:=ae hh
   obtain⟨r8,hr8,hh⟩:=ae hh
   try simp only[iy,seval,-Int.reduceToNat,hr1,Zj1,hr6,hr7,hr8]
   refine cj (by kernel_rfl) ?_
   cases hh
   try simp only[iy,seval,-Int.reduceToNat,hr1,Zj1,hr6,hr7,hr8]
 ·clear hh
  have hh:=ho2
  try simp only[iy,seval,-Int.reduceToNat,hr1]
  refine sp aX hh (fun _ hh =>?_) (fun _ hh =>?_)
  ·cases hh
   try simp only[iy,seval,-Int.reduceToNat,hr1]
   rw[an]
   refine⟨_,rfl,?_⟩
   refine⟨0,0,0,?_,?_,?_,?_,?_,?_,?_⟩
   all_goals first|rfl|(simp only[iy,seval,-Int.reduceToNat,hr1]<;>rfl)
  ·obtain⟨r10,hr10,hh⟩:=ae hh
   cases hh
   try simp only[iy,seval,-Int.reduceToNat,hr1,hr10]
   rw[an]
   refine⟨_,rfl,?_⟩
   refine⟨0,0,0,?_,?_,?_,?_,?_,?_,?_⟩
   all_goals first|rfl|(simp only[iy,seval,-Int.reduceToNat,hr1,hr10]<;>rfl)
theorem L0:bM Tryz.prog 130 xp:=bM.of (mode := .clean) tok Lk mixed Tryz.func130 (by kernel_rfl) ⟨by kernel_rfl,by kernel_rfl⟩ (fun _=>Nat.le_of_ble_eq_true (by kernel_rfl)) (fun x r h=>Pn x.1 x.2 r h)
noncomputable def pU:=eN (dU (dm ib) (dR (dm ib))) (fun x:ay×ay=>gh x.1 x.2) (fun r:ay =>.clean (.agg [.int .i64 r.ah,.sl false false r.aa.length (ab (eI .i64) r.aa)]))
theorem wU (p0_0:Int) (p0_1:(List Int)) (p1_0:Int) (p1_1:(List Int)):pU none [.agg [.int .i64 p0_0,.sl false false p0_1.length (ab (eI .i64) p0_1)],.agg [.int .i64 p1_0,.sl false false p1_1.length (ab (eI .i64) p1_1)]]=(gh (ay.mk p0_0 p0_1) (ay.mk p1_0 p1_1)).map fun r:ay=>(.clean (.agg [.int .i64 r.ah,.sl false false r.aa.length (ab (eI .i64) r.aa)]),none):=aJ _ _ _ ((ay.mk p0_0 p0_1),(ay.mk p1_0 p1_1))
noncomputable def mO:Env:=(Am.ext aV 130 false xp)
theorem C3:bR Tryz.prog mO:=(bR.none.add L0 false)
theorem Hn:type_of% (ai @w<|ai @Fh<|@mO.eq_1):=⟨@w,@Fh,@mO.eq_1⟩
theorem GA (p0:ay) (p1:ay) (r:ay) (hh:gh p0 p1=some r):aP .clean tab mO FU Tryz.f101 none [.agg [.int .i64 p0.ah,.sl false false p0.aa.length (ab (eI .i64) p0.aa)],.agg [.int .i64 p1.ah,.sl false false p1.aa.length (ab (eI .i64) p1.aa)]]=some (.clean (.agg [.int .i64 r.ah,.sl false false r.aa.length (ab (eI .i64) r.aa)]),none):=by
 refine ax rfl Tryz.ntmps101 Tryz.results101 ?_
 unfold gh at hh
 obtain⟨r1,hr1,hh⟩:=ae hh
 cases hh
 try simp only[Hn,seval,-Int.reduceToNat,hr1]
theorem Dv:bM Tryz.prog 101 pU:=bM.of (mode := .clean) tok C3 mixed Tryz.func101 (by kernel_rfl) ⟨by kernel_rfl,by kernel_rfl⟩ (fun _=>Nat.le_of_ble_eq_true (by kernel_rfl)) (fun x r h=>GA x.1 x.2 r h)
noncomputable def oY:=eN (dU (dm ib) (dR (dm ib))) (fun x:ay×ay=>iO x.1 x.2) (fun r:Int =>.clean (.int .i64 r))
theorem uW (p0_0:Int) (p0_1:(List Int)) (p1_0:Int) (p1_1:(List Int)):oY none [.agg [.int .i64 p0_0,.sl false false p0_1.length (ab (eI .i64) p0_1)],.agg [.int .i64 p1_0,.sl false false p1_1.length (ab (eI .i64) p1_1)]]=(iO (ay.mk p0_0 p0_1) (ay.mk p1_0 p1_1)).map fun r:Int=>(.clean (.int .i64 r),none):=aJ _ _ _ ((ay.mk p0_0 p0_1),(ay.mk p1_0 p1_1))
noncomputable def lM:Env:=(Am.ext (Am.ext (Am.ext aV 97 false iL) 128 false lF) 129 false lE)
theorem BB:bR Tryz.prog lM:=(((bR.none.add kD false).add ti false).add te false)
theorem dk:type_of% (ai @w<|ai @fi<|ai @lU<|ai @lT<|@lM.eq_1):=⟨@w,@fi,@lU,@lT,@lM.eq_1⟩
theorem Dj (p0:ay) (p1:ay) (r:Int) (hh:iO p0 p1=some r):aP .clean tab lM FU Tryz.f100 none [.agg [.int .i64 p0.ah,.sl false false p0.aa.length (ab (eI .i64) p0.aa)],.agg [.int .i64 p1.ah,.sl false false p1.aa.length (ab (eI .i64) p1.aa)]]=some (.clean (.int .i64 r),none):=by
 refine ax rfl Tryz.ntmps100 Tryz.results100 ?_
 unfold iO at hh
 obtain⟨r1,hr1,hh⟩:=ae hh
 try simp only[dk,seval,-Int.reduceToNat,hr1]
 obtain⟨o2,ho2,hh⟩:=ae hh
 refine bW 0 (fun s t H e=>match s with|s12j1=>∃v2j1:Nat,∃v3j1:Nat,t 2=.ptr 2 v2j1 0∧t 3=.ptr 3 v3j1 0∧t 12=.bool s12j1∧H 2=some ⟨v2j1,49,[.int .i64 p0.ah,.sl false false p0.aa.length (ab (eI .i64) p0.aa)],false,false,false⟩∧H 3=some ⟨v3j1,49,[.int .i64 p1.ah,.sl false false p1.aa.length (ab (eI .i64) p1.aa)],false,false,false⟩) (fun s=>s=o2) ?_ ?_
 ·rintro s12j1 t H e ⟨v2j1,v3j1,Zj1⟩ rfl
  try dsimp only at hh
  try simp only[dk,seval,-Int.reduceToNat,hr1,Zj1]
  refine sp ak hh (fun _ hh =>?_) (fun _ hh =>?_)
  ·cases hh
   try simp only[dk,seval,-Int.reduceToNat,hr1,Zj1]
  ·try simp only[dk,seval,-Int.reduceToNat,hr1,Zj1]
   refine sp ak hh (fun _ hh =>?_) (fun _ hh =>?_)
   ·obtain⟨r5,hr5,hh⟩:=ae hh
    cases hh
    try simp only[dk,seval,-Int.reduceToNat,hr1,Zj1,hr5]
   ·obtain⟨r6,hr6,hh⟩:=ae hh
    try simp only[dk,seval,-Int.reduceToNat,hr1,Zj1,hr6]
    refine cj (by kernel_rfl) ?_
    cases hh
    try simp only[dk,seval,-Int.reduceToNat,hr1,Zj1,hr6]
 ·clear hh
  have hh:=ho2
  try simp only[dk,seval,-Int.reduceToNat,hr1]
  refine sp aX hh (fun _ hh =>?_) (fun _ hh =>?_)
  ·cases hh
   try simp only[dk,seval,-Int.reduceToNat,hr1]
   rw[an]
   refine⟨_,rfl,?_⟩
   refine⟨0,0,?_,?_,?_,?_,?_⟩
   all_goals first|rfl|(simp only[dk,seval,-Int.reduceToNat,hr1]<;>rfl)
  ·obtain⟨r8,hr8,hh⟩:=ae hh
   cases hh
   try simp only[dk,seval,-Int.reduceToNat,hr1,hr8]
   rw[an]
   refine⟨_,rfl,?_⟩
   refine⟨0,0,?_,?_,?_,?_,?_⟩
   all_goals first|rfl|(simp only[dk,seval,-Int.reduceToNat,hr1,hr8]<;>rfl)
theorem B5:bM Tryz.prog 100 oY:=bM.of (mode := .clean) tok BB mixed Tryz.func100 (by kernel_rfl) ⟨by kernel_rfl,by kernel_rfl⟩ (fun _=>Nat.le_of_ble_eq_true (by kernel_rfl)) (fun x r h=>Dj x.1 x.2 r h)
noncomputable def kj:=eN (dU (dm lj) (dR (dm lj))) (fun x:aT×aT=>e9 x.1 x.2) (fun r:Int =>.clean (.int .i64 r))
theorem kJ (p0_0:Int) (p0_1:(List Int)) (p0_2:Int) (p0_3:(List Int)) (p1_0:Int) (p1_1:(List Int)) (p1_2:Int) (p1_3:(List Int)):kj none [.agg [.int .i64 p0_0,.sl false false p0_1.length (ab (eI .i64) p0_1),.int .i64 p0_2,.sl false false p0_3.length (ab (eI .i64) p0_3)],.agg [.int .i64 p1_0,.sl false false p1_1.length (ab (eI .i64) p1_1),.int .i64 p1_2,.sl false false p1_3.length (ab (eI .i64) p1_3)]]=(e9 (aT.mk (ay.mk p0_0 p0_1) (ay.mk p0_2 p0_3)) (aT.mk (ay.mk p1_0 p1_1) (ay.mk p1_2 p1_3))).map fun r:Int=>(.clean (.int .i64 r),none):=aJ _ _ _ ((aT.mk (ay.mk p0_0 p0_1) (ay.mk p0_2 p0_3)),(aT.mk (ay.mk p1_0 p1_1) (ay.mk p1_2 p1_3)))
noncomputable def kz:Env:=(Am.ext (Am.ext (Am.ext aV 57 false kl) 100 false oY) 101 false pU)
theorem zJ:bR Tryz.prog kz:=(((bR.none.add pf false).add B5 false).add Dv false)
theorem dF:type_of% (ai @w<|ai @jc<|ai @uW<|ai @wU<|@kz.eq_1):=⟨@w,@jc,@uW,@wU,@kz.eq_1⟩
theorem BV (p0:aT) (p1:aT) (r:Int) (hh:e9 p0 p1=some r):aP .clean tab kz FU Tryz.f58 none [.agg [.int .i64 p0.cu.ah,.sl false false p0.cu.aa.length (ab (eI .i64) p0.cu.aa),.int .i64 p0.ct.ah,.sl false false p0.ct.aa.length (ab (eI .i64) p0.ct.aa)],.agg [.int .i64 p1.cu.ah,.sl false false p1.cu.aa.length (ab (eI .i64) p1.cu.aa),.int .i64 p1.ct.ah,.sl false false p1.ct.aa.length (ab (eI .i64) p1.ct.aa)]]=some (.clean (.int .i64 r),none):=by
 refine ax rfl Tryz.ntmps58 Tryz.results58 ?_
 unfold e9 at hh
 obtain⟨r1,hr1,hh⟩:=ae hh
 try simp only[dF,seval,-Int.reduceToNat,hr1]
 obtain⟨o2,ho2,hh⟩:=ae hh
 refine bW 0 (fun s t H e=>match s with|s12j1=>∃v2j1:Nat,∃v3j1:Nat,t 2=.ptr 2 v2j1 0∧t 3=.ptr 3 v3j1 0∧t 12=.bool s12j1∧H 2=some ⟨v2j1,51,[.int .i64 p0.cu.ah,.sl false false p0.cu.aa.length (ab (eI .i64) p0.cu.aa),.int .i64 p0.ct.ah,.sl false false p0.ct.aa.length (ab (eI .i64) p0.ct.aa)],false,false,false⟩∧H 3=some ⟨v3j1,51,[.int .i64 p1.cu.ah,.sl false false p1.cu.aa.length (ab (eI .i64) p1.cu.aa),.int .i64 p1.ct.ah,.sl false false p1.ct.aa.length (ab (eI .i64) p1.ct.aa)],false,false,false⟩) (fun s=>s=o2) ?_ ?_
 ·rintro s12j1 t H e ⟨v2j1,v3j1,Zj1⟩ rfl
  try dsimp only at hh
  try simp only[dF,seval,-Int.reduceToNat,hr1,Zj1]
  refine sp ak hh (fun _ hh =>?_) (fun _ hh =>?_)
  ·cases hh
   try simp only[dF,seval,-Int.reduceToNat,hr1,Zj1]
  ·obtain⟨r4,hr4,hh⟩:=ae hh
   obtain⟨r5,hr5,hh⟩:=ae hh
   obtain⟨r6,hr6,hh⟩:=ae hh
   try simp only[dF,seval,-Int.reduceToNat,hr1,Zj1,hr4,hr5,hr6]
   refine cj (by kernel_rfl) ?_
   cases hh
   try simp only[dF,seval,-Int.reduceToNat,hr1,Zj1,hr4,hr5,hr6]
 ·clear hh
  have hh:=ho2
  try simp only[dF,seval,-Int.reduceToNat,hr1]
  refine sp aX hh (fun _ hh =>?_) (fun _ hh =>?_)
  ·cases hh
   try simp only[dF,seval,-Int.reduceToNat,hr1]
   rw[an]
   refine⟨_,rfl,?_⟩
   refine⟨0,0,?_,?_,?_,?_,?_⟩
   all_goals first|rfl|(simp only[dF,seval,-Int.reduceToNat,hr1]<;>rfl)
  ·obtain⟨r8,hr8,hh⟩:=ae hh
   cases hh
   try simp only[dF,seval,-Int.reduceToNat,hr1,hr8]
   rw[an]
   refine⟨_,rfl,?_⟩
   refine⟨0,0,?_,?_,?_,?_,?_⟩
   all_goals first|rfl|(simp only[dF,seval,-Int.reduceToNat,hr1,hr8]<;>rfl)
theorem rK:bM Tryz.prog 58 kj:=bM.of (mode := .clean) tok zJ mixed Tryz.func58 (by kernel_rfl) ⟨by kernel_rfl,by kernel_rfl⟩ (fun _=>Nat.le_of_ble_eq_true (by kernel_rfl)) (fun x r h=>BV x.1 x.2 r h)
noncomputable def ko:=eN (dR (dm eZ)) (fun x:cr=>fE x) (fun r:Bool =>.clean (.bool r))
theorem jd (p0_0:Int) (p0_1:(List Int)) (p0_2:Int) (p0_3:(List Int)) (p0_4:Int) (p0_5:(List Int)) (p0_6:Int) (p0_7:(List Int)):ko none [.agg [.int .i64 p0_0,.sl false false p0_1.length (ab (eI .i64) p0_1),.int .i64 p0_2,.sl false false p0_3.length (ab (eI .i64) p0_3),.int .i64 p0_4,.sl false false p0_5.length (ab (eI .i64) p0_5),.int .i64 p0_6,.sl false false p0_7.length (ab (eI .i64) p0_7)]]=(fE (cr.mk (aT.mk (ay.mk p0_0 p0_1) (ay.mk p0_2 p0_3)) (aT.mk (ay.mk p0_4 p0_5) (ay.mk p0_6 p0_7)))).map fun r:Bool=>(.clean (.bool r),none):=aJ _ _ _ ((cr.mk (aT.mk (ay.mk p0_0 p0_1) (ay.mk p0_2 p0_3)) (aT.mk (ay.mk p0_4 p0_5) (ay.mk p0_6 p0_7))))
noncomputable def mQ:Env:=(Am.ext (Am.ext aV 57 false kl) 58 false kj)
theorem C5:bR Tryz.prog mQ:=((bR.none.add pf false).add rK false)
theorem kU:type_of% (ai @w<|ai @jc<|ai @kJ<|@mQ.eq_1):=⟨@w,@jc,@kJ,@mQ.eq_1⟩
theorem GC (p0:cr) (r:Bool) (hh:fE p0=some r):aP .clean tab mQ FU Tryz.f30 none [.agg [.int .i64 p0.bn.cu.ah,.sl false false p0.bn.cu.aa.length (ab (eI .i64) p0.bn.cu.aa),.int .i64 p0.bn.ct.ah,.sl false false p0.bn.ct.aa.length (ab (eI .i64) p0.bn.ct.aa),.int .i64 p0.aM.cu.ah,.sl false false p0.aM.cu.aa.length (ab (eI .i64) p0.aM.cu.aa),.int .i64 p0.aM.ct.ah,.sl false false p0.aM.ct.aa.length (ab (eI .i64) p0.aM.ct.aa)]]=some (.clean (.bool r),none):=by
 refine ax rfl Tryz.ntmps30 Tryz.results30 ?_
 unfold fE at hh
 obtain⟨r1,hr1,hh⟩:=ae hh
 try simp only[kU,seval,-Int.reduceToNat,hr1]
 refine sp bB hh (fun _ hh =>?_) (fun _ hh =>?_)
 ·obtain⟨r3,hr3,hh⟩:=ae hh
  try simp only[kU,seval,-Int.reduceToNat,hr1,hr3]
  refine sp bB hh (fun _ hh =>?_) (fun _ hh =>?_)
  ·obtain⟨r5,hr5,hh⟩:=ae hh
   cases hh
   try simp only[kU,seval,-Int.reduceToNat,hr1,hr3,hr5]
  ·cases hh
   try simp only[kU,seval,-Int.reduceToNat,hr1,hr3]
 ·cases hh
  try simp only[kU,seval,-Int.reduceToNat,hr1]
theorem pg:bM Tryz.prog 30 ko:=bM.of (mode := .clean) tok C5 mixed Tryz.func30 (by kernel_rfl) ⟨by kernel_rfl,by kernel_rfl⟩ (fun _=>Nat.le_of_ble_eq_true (by kernel_rfl)) (fun x r h=>GC x r h)
noncomputable def mq:=eN (dR (dm bc)) (fun x:aB=>ie x) (fun r:Bool =>.clean (.bool r))
theorem rM (p0_0:Int) (p0_1:Int) (p0_2:(List Int)) (p0_3:Int) (p0_4:(List Int)) (p0_5:Int) (p0_6:(List Int)) (p0_7:Int) (p0_8:(List Int)):mq none [.agg [.int .i64 p0_0,.int .i64 p0_1,.sl false false p0_2.length (ab (eI .i64) p0_2),.int .i64 p0_3,.sl false false p0_4.length (ab (eI .i64) p0_4),.int .i64 p0_5,.sl false false p0_6.length (ab (eI .i64) p0_6),.int .i64 p0_7,.sl false false p0_8.length (ab (eI .i64) p0_8)]]=(ie (aB.mk p0_0 (cr.mk (aT.mk (ay.mk p0_1 p0_2) (ay.mk p0_3 p0_4)) (aT.mk (ay.mk p0_5 p0_6) (ay.mk p0_7 p0_8))))).map fun r:Bool=>(.clean (.bool r),none):=aJ _ _ _ ((aB.mk p0_0 (cr.mk (aT.mk (ay.mk p0_1 p0_2) (ay.mk p0_3 p0_4)) (aT.mk (ay.mk p0_5 p0_6) (ay.mk p0_7 p0_8)))))
noncomputable def jF:Env:=(Am.ext aV 30 false ko)
theorem xO:bR Tryz.prog jF:=(bR.none.add pg false)
theorem zT:type_of% (ai @w<|ai @jd<|@jF.eq_1):=⟨@w,@jd,@jF.eq_1⟩
theorem zK (p0:aB) (r:Bool) (hh:ie p0=some r):aP .clean tab jF FU Tryz.f41 none [.agg [.int .i64 p0.ck,.int .i64 p0.bG.bn.cu.ah,.sl false false p0.bG.bn.cu.aa.length (ab (eI .i64) p0.bG.bn.cu.aa),.int .i64 p0.bG.bn.ct.ah,.sl false false p0.bG.bn.ct.aa.length (ab (eI .i64) p0.bG.bn.ct.aa),.int .i64 p0.bG.aM.cu.ah,.sl false false p0.bG.aM.cu.aa.length (ab (eI .i64) p0.bG.aM.cu.aa),.int .i64 p0.bG.aM.ct.ah,.sl false false p0.bG.aM.ct.aa.length (ab (eI .i64) p0.bG.aM.ct.aa)]]=some (.clean (.bool r),none):=by
 refine ax rfl Tryz.ntmps41 Tryz.results41 ?_
 unfold ie at hh
 obtain⟨r1,hr1,hh⟩:=ae hh
 cases hh
 try simp only[zT,seval,-Int.reduceToNat,hr1]
theorem xZ:bM Tryz.prog 41 mq:=bM.of (mode := .clean) tok xO mixed Tryz.func41 (by kernel_rfl) ⟨by kernel_rfl,by kernel_rfl⟩ (fun _=>Nat.le_of_ble_eq_true (by kernel_rfl)) (fun x r h=>zK x r h)
noncomputable def km:=eN (dR (aI .u64)) (fun x:Int=>ic x) (fun r:Int =>.clean (.int .i64 r))
theorem oL (p0:Int):km none [.int .u64 p0]=(ic p0).map fun r:Int=>(.clean (.int .i64 r),none):=aJ _ _ _ (p0)
theorem wN (p0:Int) (r:Int) (hh:ic p0=some r):aP .clean tab aV FU Tryz.f149 none [.int .u64 p0]=some (.clean (.int .i64 r),none):=by
 refine ax rfl Tryz.ntmps149 Tryz.results149 ?_
 unfold ic at hh
 try simp only[w,seval,-Int.reduceToNat]
 obtain⟨o1,ho1,hh⟩:=ae hh
 refine mm 0 (fun s t H e=>match s with|(s0j1,s2j1)=>t 0=.int .u64 s0j1∧t 2=.int .i64 s2j1) (fun s=>s=o1) ?_ ?_
 ·rintro⟨s0j1,s2j1⟩ t H e Zj1 rfl
  try dsimp only at hh
  try simp only[w,seval,-Int.reduceToNat,Zj1]
  obtain⟨o2,ho2,hh⟩:=ae hh
  refine mm 0 (fun s t H e=>match s with|(s0j2,s2j2)=>t 0=.int .u64 s0j2∧t 2=.int .i64 s2j2) (fun s=>s=o2) ?_ ?_
  ·rintro⟨s0j2,s2j2⟩ t H e Zj2 rfl
   try dsimp only at hh
   try simp only[w,seval,-Int.reduceToNat,Zj2]
   refine sp ak hh (fun _ hh =>?_) (fun _ hh =>?_)
   ·obtain⟨x4,hx4,hh⟩:=ae hh
    have q5:=oT hx4
    try simp only[w,seval,-Int.reduceToNat,Zj2,q5]
    obtain⟨x6,hx6,hh⟩:=ae hh
    obtain⟨q7a,q7b,q7c,q7d⟩:=Ob hx6
    try simp only[w,seval,-Int.reduceToNat,Zj2,q5,q7a,q7d]
    erw [q7c]
    cases hh
    try simp only[w,seval,-Int.reduceToNat,Zj2,q5,q7a,q7d]
   ·try simp only[w,seval,-Int.reduceToNat,Zj2]
    obtain⟨x8,hx8,hh⟩:=ae hh
    obtain⟨q9a,q9b,q9c,q9d⟩:=Ob hx8
    try simp only[w,seval,-Int.reduceToNat,Zj2,q9a,q9d]
    erw [q9c]
    cases hh
    try simp only[w,seval,-Int.reduceToNat,Zj2,q9a,q9d]
  ·clear hh
   have hh:=ho2
   try simp only[w,seval,-Int.reduceToNat,Zj1]
   refine sp ak hh (fun _ hh =>?_) (fun _ hh =>?_)
   ·obtain⟨x11,hx11,hh⟩:=ae hh
    have q12:=oT hx11
    cases hh
    try simp only[w,seval,-Int.reduceToNat,Zj1,q12]
    rw[an]
    refine⟨_,rfl,?_⟩
    refine⟨?_,?_⟩
    all_goals first|rfl|(simp only[w,seval,-Int.reduceToNat,Zj1,q12]<;>rfl)
   ·cases hh
    try simp only[w,seval,-Int.reduceToNat,Zj1]
    rw[an]
    refine⟨_,rfl,?_⟩
    refine⟨?_,?_⟩
    all_goals first|rfl|(simp only[w,seval,-Int.reduceToNat,Zj1]<;>rfl)
 ·clear hh
  have hh:=ho1
  try simp only[w,seval,-Int.reduceToNat]
  refine sp ak hh (fun _ hh =>?_) (fun _ hh =>?_)
  ·obtain⟨x14,hx14,hh⟩:=ae hh
   have q15:=oT hx14
   cases hh
   try simp only[w,seval,-Int.reduceToNat,q15]
   rw[an]
   refine⟨_,rfl,?_⟩
   refine⟨?_,?_⟩
   all_goals first|rfl|(simp only[w,seval,-Int.reduceToNat,q15]<;>rfl)
  ·cases hh
   try simp only[w,seval,-Int.reduceToNat]
   rw[an]
   refine⟨_,rfl,?_⟩
   refine⟨?_,?_⟩
   all_goals first|rfl|(simp only[w,seval,-Int.reduceToNat]<;>rfl)
theorem vD:bM Tryz.prog 149 km:=bM.of (mode := .clean) tok bR.none mixed Tryz.func149 (by kernel_rfl) ⟨by kernel_rfl,by kernel_rfl⟩ (fun _=>Nat.le_of_ble_eq_true (by kernel_rfl)) (fun x r h=>wN x r h)
noncomputable def mr:=eN (dR (aI .u64)) (fun x:Int=>jt x) (fun r:Int =>.clean (.int .i64 r))
theorem rN (p0:Int):mr none [.int .u64 p0]=(jt p0).map fun r:Int=>(.clean (.int .i64 r),none):=aJ _ _ _ (p0)
noncomputable def jG:Env:=(Am.ext aV 149 false km)
theorem xP:bR Tryz.prog jG:=(bR.none.add vD false)
theorem zU:type_of% (ai @w<|ai @oL<|@jG.eq_1):=⟨@w,@oL,@jG.eq_1⟩
theorem zL (p0:Int) (r:Int) (hh:jt p0=some r):aP .clean tab jG FU Tryz.f107 none [.int .u64 p0]=some (.clean (.int .i64 r),none):=by
 refine ax rfl Tryz.ntmps107 Tryz.results107 ?_
 unfold jt at hh
 obtain⟨r1,hr1,hh⟩:=ae hh
 cases hh
 try simp only[zU,seval,-Int.reduceToNat,hr1]
theorem yb:bM Tryz.prog 107 mr:=bM.of (mode := .clean) tok xP mixed Tryz.func107 (by kernel_rfl) ⟨by kernel_rfl,by kernel_rfl⟩ (fun _=>Nat.le_of_ble_eq_true (by kernel_rfl)) (fun x r h=>zL x r h)
noncomputable def ve:=eN (dU (aI .i64) (dR (aI .i64))) (fun x:Int×Int=>sy x.1 x.2) (fun r:Bool =>.clean (.bool r))
theorem Cf (p0:Int) (p1:Int):ve none [.int .i64 p0,.int .i64 p1]=(sy p0 p1).map fun r:Bool=>(.clean (.bool r),none):=aJ _ _ _ (p0,p1)
noncomputable def qA:Env:=(Am.ext aV 166 false oh)
theorem IJ:bR Tryz.prog qA:=(bR.none.add wQ false)
theorem oc:type_of% (ai @w<|ai @oK<|@qA.eq_1):=⟨@w,@oK,@qA.eq_1⟩
theorem LI (p0:Int) (p1:Int) (r:Bool) (hh:sy p0 p1=some r):aP .clean tab qA FU Tryz.f145 none [.int .i64 p0,.int .i64 p1]=some (.clean (.bool r),none):=by
 refine ax rfl Tryz.ntmps145 Tryz.results145 ?_
 unfold sy at hh
 obtain⟨r1,hr1,hh⟩:=ae hh
 try simp only[oc,seval,-Int.reduceToNat,hr1]
 refine sp bB hh (fun _ hh =>?_) (fun _ hh =>?_)
 ·obtain⟨r3,hr3,hh⟩:=ae hh
  try simp only[oc,seval,-Int.reduceToNat,hr1,hr3]
  refine sp aX hh (fun _ hh =>?_) (fun _ hh =>?_)
  ·cases hh
   try simp only[oc,seval,-Int.reduceToNat,hr1,hr3]
  ·cases hh
   try simp only[oc,seval,-Int.reduceToNat,hr1,hr3]
 ·cases hh
  try simp only[oc,seval,-Int.reduceToNat,hr1]
theorem J0:bM Tryz.prog 145 ve:=bM.of (mode := .clean) tok IJ mixed Tryz.func145 (by kernel_rfl) ⟨by kernel_rfl,by kernel_rfl⟩ (fun _=>Nat.le_of_ble_eq_true (by kernel_rfl)) (fun x r h=>LI x.1 x.2 r h)
noncomputable def ew:=Qb 3 (eI .i64) (dU (aI .i64) (dR (aI .i64))) (fun (l:(List Int)) (x:Int×Int)=>bP l x.1 x.2) (fun r:Unit =>.clean (.tup []))
theorem kZ (pre post:List D) (p0:(List Int)) (p1:Int) (p2:Int):ew (some (.buf 0 0 1 pre.length p0.length,⟨0,3,pre++(ab (eI .i64) p0++post),false,true,false⟩)) [.int .i64 p1,.int .i64 p2]=(bP p0 p1 p2).map fun r=>(.clean (.tup []),some ⟨0,3,pre++(ab (eI .i64) r.1++post),false,true,false⟩):=B0 _ _ _ _ _ pre post p0 (p1,p2)
noncomputable def de:Env:=(Am.ext aV 145 false ve)
theorem kA:bR Tryz.prog de:=(bR.none.add J0 false)
theorem aq:type_of% (ai @w<|ai @Cf<|@de.eq_1):=⟨@w,@Cf,@de.eq_1⟩
theorem kY (pre post:List D) (p0:(List Int)) (p1:Int) (p2:Int) (r:(List Int)×(Unit)) (hh:bP p0 p1 p2=some r):aP .clean tab de FU Tryz.f139 (some (.buf 0 0 1 pre.length p0.length,⟨0,3,pre++(ab (eI .i64) p0++post),false,true,false⟩)) [.int .i64 p1,.int .i64 p2]=some (.clean (.tup []),some ⟨0,3,pre++(ab (eI .i64) r.1++post),false,true,false⟩):=by
 refine oa rfl Tryz.ntmps139 Tryz.results139 ?_
 unfold bP at hh
 obtain⟨rw,hrw,hh⟩:=ae hh
 split at hh
 rotate_left
 ·cases hh
 cases hh
 rename_i hlen
 replace hh:=hrw
 unfold gm at hh
 try simp only[aq,seval,-Int.reduceToNat]
 obtain⟨o25,ho25,hh⟩:=ae hh
 refine az (fun s t H e=>match s with|(s6a,l0a)=>t 0=.buf 0 0 1 pre.length (l0a).length∧t 1=.int .i64 p1∧t 2=.int .i64 p2∧t 6=.int .i64 s6a∧H 0=some ⟨0,3,pre++(ab (eI .i64) l0a++post),false,true,false⟩) (fun o x t H e=>match o with|l0ax=>x=.exit 0∧t 0=.buf 0 0 1 pre.length (l0ax).length∧H 0=some ⟨0,3,pre++(ab (eI .i64) l0ax++post),false,true,false⟩) ho25 ?_ ?_ ?_
 ·refine⟨?_,?_,?_,?_,?_⟩
  all_goals first|rfl|(simp only[aq,seval,-Int.reduceToNat]<;>rfl)
 ·rintro⟨s6a,l0a⟩ t H e Za c hh
  simp only[fW]at hh
  try simp only[aq,seval,-Int.reduceToNat,Za]
  refine sp ak hh (fun _ hh =>?_) (fun _ hh =>?_)
  ·try simp only[aq,seval,-Int.reduceToNat,Za]
   obtain⟨o38,ho38,hh⟩:=ae hh
   refine az (fun s t H e=>match s with|(s7e,l0e)=>t 0=.buf 0 0 1 pre.length (l0e).length∧t 1=.int .i64 p1∧t 2=.int .i64 p2∧t 6=.int .i64 s6a∧t 7=.int .i64 s7e∧H 0=some ⟨0,3,pre++(ab (eI .i64) l0e++post),false,true,false⟩) (fun o x t H e=>match o with|l0ex=>x=.exit 2∧t 0=.buf 0 0 1 pre.length (l0ex).length∧t 1=.int .i64 p1∧t 2=.int .i64 p2∧t 6=.int .i64 s6a∧H 0=some ⟨0,3,pre++(ab (eI .i64) l0ex++post),false,true,false⟩) ho38 ?_ ?_ ?_
   ·refine⟨?_,?_,?_,?_,?_,?_⟩
    all_goals first|rfl|(simp only[aq,seval,-Int.reduceToNat,Za]<;>rfl)
   ·rintro⟨s7e,l0e⟩ t H e Ze c hh
    simp only[fX]at hh
    try simp only[aq,seval,-Int.reduceToNat,Ze]
    obtain⟨o39,ho39,hh⟩:=ae hh
    refine KJ 0 (fun s t H e=>match s with|s30j7=>t 0=.buf 0 0 1 pre.length (l0e).length∧t 1=.int .i64 p1∧t 2=.int .i64 p2∧t 6=.int .i64 s6a∧t 7=.int .i64 s7e∧t 30=.bool s30j7∧H 0=some ⟨0,3,pre++(ab (eI .i64) l0e++post),false,true,false⟩) (fun s=>s=o39) ?_ ?_
    ·rintro s30j7 t H e Zj7 rfl
     try dsimp only at hh
     try simp only[aq,seval,-Int.reduceToNat,Zj7]
     refine sp ak hh (fun _ hh =>?_) (fun _ hh =>?_)
     ·obtain⟨x41,hx41,hh⟩:=ae hh
      have ax41:=sV (pre:=pre) (post:=post) (eI .i64) hx41
      simp only[bZ]at ax41
      obtain⟨x42,hx42,hh⟩:=ae hh
      have ax42:=sV (pre:=pre) (post:=post) (eI .i64) hx42
      simp only[bZ]at ax42
      have ax42:=sV (pre:=pre) (post:=post) (eI .i64) hx42
      simp only[bZ]at ax42
      have p43:=wT (pre:=pre) (post:=post) (eI .i64) (y':=x41) hx42
      simp only[bZ]at p43
      have up43:=p43
      simp only[putCells,List.length_cons,List.length_nil,Nat.zero_add,Nat.reduceAdd]at up43
      obtain⟨x44,hx44,hh⟩:=ae hh
      have ax44:=sV (pre:=pre) (post:=post) (eI .i64) hx44
      simp only[bZ,List.length_set]at ax44
      have p45:=wT (pre:=pre) (post:=post) (eI .i64) (y':=x42) hx44
      simp only[bZ]at p45
      have up45:=p45
      simp only[putCells,List.length_cons,List.length_nil,Nat.zero_add,Nat.reduceAdd]at up45
      try simp only[aq,seval,-Int.reduceToNat,Zj7,ax41,ax42,ax42,p43,up43,ax44,p45,up45]
      refine cj (by kernel_rfl) ?_
      cases hh
      try simp only[aq,seval,-Int.reduceToNat,Zj7,ax41,ax42,ax42,p43,up43,ax44,p45,up45]
      refine jg ?_
      refine⟨?_,?_,?_,?_,?_,?_⟩
      all_goals first|rfl|(simp only[aq,seval,-Int.reduceToNat,Zj7,ax41,ax42,ax42,p43,up43,ax44,p45,up45]<;>rfl)
     ·cases hh
      try simp only[aq,seval,-Int.reduceToNat,Zj7]
      refine kX ?_
      refine⟨rfl,⟨?_,?_,?_,?_,?_⟩⟩
      all_goals first|rfl|(simp only[aq,seval,-Int.reduceToNat,Zj7]<;>rfl)
    ·clear hh
     have hh:=ho39
     try simp only[aq,seval,-Int.reduceToNat,Ze]
     refine sp oV hh (fun _ hh =>?_) (fun _ hh =>?_)
     ·obtain⟨x47,hx47,hh⟩:=ae hh
      have ax47:=sV (pre:=pre) (post:=post) (eI .i64) hx47
      simp only[bZ]at ax47
      obtain⟨x48,hx48,hh⟩:=ae hh
      have ax48:=sV (pre:=pre) (post:=post) (eI .i64) hx48
      simp only[bZ]at ax48
      obtain⟨r49,hr49,hh⟩:=ae hh
      try simp only[aq,seval,-Int.reduceToNat,Ze,ax47,ax48,hr49]
      refine cj (by kernel_rfl) ?_
      cases hh
      try simp only[aq,seval,-Int.reduceToNat,Ze,ax47,ax48,hr49]
      rw[an]
      refine⟨_,rfl,?_⟩
      refine⟨?_,?_,?_,?_,?_,?_,?_⟩
      all_goals first|rfl|(simp only[aq,seval,-Int.reduceToNat,Ze,ax47,ax48,hr49]<;>rfl)
     ·try simp only[aq,seval,-Int.reduceToNat,Ze]
      refine cj (by kernel_rfl) ?_
      cases hh
      try simp only[aq,seval,-Int.reduceToNat,Ze]
      rw[an]
      refine⟨_,rfl,?_⟩
      refine⟨?_,?_,?_,?_,?_,?_,?_⟩
      all_goals first|rfl|(simp only[aq,seval,-Int.reduceToNat,Ze]<;>rfl)
   ·rintro x t H e hx
    obtain⟨l0ex,rfl⟩:∃z,z=o38:=⟨_,rfl⟩
    dsimp only at hx hh
    obtain⟨rfl,Zex⟩:=hx
    cases hh
    try simp only[aq,seval,-Int.reduceToNat,Zex]
    refine jg ?_
    refine⟨?_,?_,?_,?_,?_⟩
    all_goals first|rfl|(simp only[aq,seval,-Int.reduceToNat,Zex]<;>rfl)
  ·cases hh
   try simp only[aq,seval,-Int.reduceToNat,Za]
   refine kX ?_
   refine⟨rfl,⟨?_,?_⟩⟩
   all_goals first|rfl|(simp only[aq,seval,-Int.reduceToNat,Za]<;>rfl)
 ·rintro x t H e hx
  obtain⟨l0ax,rfl⟩:∃z,z=o25:=⟨_,rfl⟩
  dsimp only at hx hh
  obtain⟨rfl,Zax⟩:=hx
  cases hh
  try simp only[aq,seval,-Int.reduceToNat,Zax]
theorem kE:bM Tryz.prog 139 ew:=bM.NQ (mode := .clean) tok kA mixed Tryz.func139 (by kernel_rfl) ⟨by kernel_rfl,by kernel_rfl⟩ (fun _=>Nat.le_of_ble_eq_true (by kernel_rfl)) (fun pre post l x l' r h=>kY pre post l x.1 x.2 (l',r) h)
noncomputable def fH:=Qb 3 (eI .i64) (dU (aI .i64) (dU (aI .i64) (dR (aI .i64)))) (fun (l:(List Int)) (x:Int×Int×Int)=>cy l x.1 x.2.1 x.2.2) (fun r:Unit =>.clean (.tup []))
theorem og (pre post:List D) (p0:(List Int)) (p1:Int) (p2:Int) (p3:Int):fH (some (.buf 0 0 1 pre.length p0.length,⟨0,3,pre++(ab (eI .i64) p0++post),false,true,false⟩)) [.int .i64 p1,.int .i64 p2,.int .i64 p3]=(cy p0 p1 p2 p3).map fun r=>(.clean (.tup []),some ⟨0,3,pre++(ab (eI .i64) r.1++post),false,true,false⟩):=B0 _ _ _ _ _ pre post p0 (p1,p2,p3)
noncomputable def ez:Env:=(Am.ext aV 139 true ew)
theorem nV:bR Tryz.prog ez:=(bR.none.add kE true)
theorem cH:type_of% (ai @w<|@ez.eq_1):=⟨@w,@ez.eq_1⟩
theorem oe (pre post:List D) (p0:(List Int)) (p1:Int) (p2:Int) (p3:Int) (r:(List Int)×(Unit)) (hh:cy p0 p1 p2 p3=some r):aP .clean tab ez FU Tryz.f106 (some (.buf 0 0 1 pre.length p0.length,⟨0,3,pre++(ab (eI .i64) p0++post),false,true,false⟩)) [.int .i64 p1,.int .i64 p2,.int .i64 p3]=some (.clean (.tup []),some ⟨0,3,pre++(ab (eI .i64) r.1++post),false,true,false⟩):=by
 refine oa rfl Tryz.ntmps106 Tryz.results106 ?_
 unfold cy at hh
 obtain⟨rw,hrw,hh⟩:=ae hh
 split at hh
 rotate_left
 ·cases hh
 cases hh
 rename_i hlen
 replace hh:=hrw
 unfold jh at hh
 try simp only[cH,seval,-Int.reduceToNat]
 obtain⟨o6,ho6,hh⟩:=ae hh
 refine az (fun s t H e=>match s with|_=>t 0=.buf 0 0 1 pre.length (p0).length∧t 1=.int .i64 p1∧t 2=.int .i64 p2∧t 3=.int .i64 p3∧t 8=.bool true∧t 9=.bool true∧H 0=some ⟨0,3,pre++(ab (eI .i64) p0++post),false,true,false⟩) (fun o x t H e=>match o with|r=>x=.ret∧gT .clean tab (some (.buf 0 0 1 pre.length p0.length,⟨0,3,pre++(ab (eI .i64) p0++post),false,true,false⟩)) [] ⟨t,H,e⟩=some (.clean (.tup []),some ⟨0,3,pre++(ab (eI .i64) r.1++post),false,true,false⟩)) ho6 ?_ ?_ ?_
 ·refine⟨?_,?_,?_,?_,?_,?_,?_⟩
  all_goals first|rfl|(simp only[cH,seval,-Int.reduceToNat]<;>rfl)
 ·rintro _ t H e Za c hh
  simp only[iT]at hh
  try simp only[cH,seval,-Int.reduceToNat,Za]
  refine sp ak hh (fun _ hh =>?_) (fun _ hh =>?_)
  ·have i8:=kZ pre post p0 p1 p2
   try simp only[List.nil_append,List.append_nil,List.length_nil,aN,List.length_set,bZ]at i8
   obtain⟨r9,hr9,hh⟩:=ae hh
   have q10l:=kf hr9
   cases hh
   try simp only[cH,seval,-Int.reduceToNat,Za,i8,hr9,q10l]
   refine yW ⟨rfl,?_⟩
   try simp only[cH,seval,-Int.reduceToNat,Za,i8,hr9,q10l]
  ·try simp only[cH,seval,-Int.reduceToNat,Za]
   refine sp ak hh (fun _ hh =>?_) (fun _ hh =>?_)
   ·cases hh
   ·cases hh
 ·rintro x t H e hx
  rcases o6 with ra
  dsimp only at hx hh
  obtain⟨rfl,hE⟩:=hx
  cases hh
  try simp only[bq,bh,bF,dw,du]
  exact hE
theorem nX:bM Tryz.prog 106 fH:=bM.NQ (mode := .clean) tok nV mixed Tryz.func106 (by kernel_rfl) ⟨by kernel_rfl,by kernel_rfl⟩ (fun _=>Nat.le_of_ble_eq_true (by kernel_rfl)) (fun pre post l x l' r h=>oe pre post l x.1 x.2.1 x.2.2 (l',r) h)
noncomputable def zC:=Qb 3 (eI .i64) (Tn) (fun (l:(List Int)) (x:Unit)=>pn l) (fun r:Unit =>.clean (.tup []))
noncomputable def jH:Env:=(Am.ext (Am.ext aV 106 true fH) 107 false mr)
theorem xQ:bR Tryz.prog jH:=((bR.none.add nX true).add yb false)
theorem zV:type_of% (ai @w<|ai @rN<|@jH.eq_1):=⟨@w,@rN,@jH.eq_1⟩
theorem zM (pre post:List D) (p0:(List Int)) (r:(List Int)×(Unit)) (hh:pn p0=some r):aP .clean tab jH FU Tryz.f69 (some (.buf 0 0 1 pre.length p0.length,⟨0,3,pre++(ab (eI .i64) p0++post),false,true,false⟩)) []=some (.clean (.tup []),some ⟨0,3,pre++(ab (eI .i64) r.1++post),false,true,false⟩):=by
 refine oa rfl Tryz.ntmps69 Tryz.results69 ?_
 unfold pn at hh
 obtain⟨rw,hrw,hh⟩:=ae hh
 split at hh
 rotate_left
 ·cases hh
 cases hh
 rename_i hlen
 replace hh:=hrw
 unfold rS at hh
 obtain⟨r1,hr1,hh⟩:=ae hh
 have i2:=og pre post p0 0 ((p0).length:Int) r1
 try simp only[List.nil_append,List.append_nil,List.length_nil,aN,List.length_set,bZ]at i2
 obtain⟨r3,hr3,hh⟩:=ae hh
 have q4l:=mZ hr3
 cases hh
 try simp only[zV,seval,-Int.reduceToNat,hr1,i2,hr3,q4l]
theorem yc:bM Tryz.prog 69 zC:=bM.NQ (mode := .clean) tok xQ mixed Tryz.func69 (by kernel_rfl) ⟨by kernel_rfl,by kernel_rfl⟩ (fun _=>Nat.le_of_ble_eq_true (by kernel_rfl)) (fun pre post l x l' r h=>zM pre post l (l',r) h)
noncomputable def pY:=Qb 3 (eI .i64) Tn (fun (l:(List Int)) (_:Unit)=>jQ l) (fun _:Unit =>.clean (.tup []))
theorem G8 (pre post:List D) (p0:(List Int)):pY (some (.buf 0 0 1 pre.length p0.length,⟨0,3,pre++(ab (eI .i64) p0++post),false,true,false⟩)) []=(jQ p0).map fun r=>(.clean (.tup []),some ⟨0,3,pre++(ab (eI .i64) r.1++post),false,true,false⟩):=B0 _ _ _ _ _ pre post p0 ()
theorem WW:Qm Tryz.prog 69:=fun blk off cap zs w hH hb hl=>Any.slices_Sort_int Tryz.Gv blk off cap zs w hH hb hl
theorem Dx:bM Tryz.prog 69 pY:=Ua Tryz.func69 ⟨by kernel_rfl,by kernel_rfl⟩ (fun l=>by simp only[jQ]) yc (by kernel_rfl) WW
noncomputable def gS:=UT 3 (eI .i64) Tn (fun (l:(List Int)) (_:Unit)=>iS l)
theorem nY (pre post:List D) (p0:(List Int)):gS (some (.buf 0 0 1 pre.length p0.length,⟨0,3,pre++(ab (eI .i64) p0++post),false,true,false⟩)) []=(iS p0).map fun r=>(.fresh 3 1 r.length (ab (eI .i64) r),none):=RJ _ _ _ _ pre post p0 ()
theorem mE:bM Tryz.prog 70 gS:=K8 Tryz.func70 ⟨by kernel_rfl,by kernel_rfl⟩ ⟨fun blk off cap zs w h1 h2 h3=>Any.slices_Compact_int Tryz.Rz blk off cap zs w h1 h2 h3,fun a cap w=>Any.slices_Compact_int_empty Tryz.Rz a cap w⟩
noncomputable def lC:=eN (dR (iI (eI .i64))) (fun x:(List Int)=>fK x) (fun r:Bool =>.clean (.bool r))
theorem lS (p0:(List Int)):lC none [.sl false false p0.length (ab (eI .i64) p0)]=(fK p0).map fun r:Bool=>(.clean (.bool r),none):=aJ _ _ _ (p0)
noncomputable def lL:Env:=(Am.ext (Am.ext (Am.ext aV 65 false eO) 69 true pY) 70 true gS)
theorem BA:bR Tryz.prog lL:=(((bR.none.add gW false).add Dx true).add mE true)
theorem DK:type_of% (ai @w<|ai @dy<|@lL.eq_1):=⟨@w,@dy,@lL.eq_1⟩
theorem Di (p0:(List Int)) (r:Bool) (hh:fK p0=some r):aP .clean tab lL FU Tryz.f42 none [.sl false false p0.length (ab (eI .i64) p0)]=some (.clean (.bool r),none):=by
 refine ax rfl Tryz.ntmps42 Tryz.results42 ?_
 unfold fK at hh
 obtain⟨r1,hr1,hh⟩:=ae hh
 have i2:=G8 [] [] r1
 try simp only[List.nil_append,List.append_nil,List.length_nil,aN,List.length_set,bZ]at i2
 obtain⟨r3,hr3,hh⟩:=ae hh
 have q4l:=BR hr3
 replace q4l:=q4l.symm
 try simp only[q4l]at i2
 have i5:=nY [] [] r3.1
 try simp only[List.nil_append,List.append_nil,List.length_nil,aN,List.length_set,bZ]at i5
 obtain⟨r6,hr6,hh⟩:=ae hh
 cases hh
 try simp only[DK,seval,-Int.reduceToNat,hr1,i2,hr3,q4l,i5,hr6]
theorem s9:bM Tryz.prog 42 lC:=bM.of (mode := .clean) tok BA mixed Tryz.func42 (by kernel_rfl) ⟨by kernel_rfl,by kernel_rfl⟩ (fun _=>Nat.le_of_ble_eq_true (by kernel_rfl)) (fun x r h=>Di x r h)
noncomputable def gQ:=eN (dU (dm bU) (dR (Qo (eI .i64)))) (fun x:aL×Int=>dM x.1 x.2) (fun r:Bool =>.clean (.bool r))
theorem kH (p0_0:Int) (p0_1:(List Int)) (p0_2:ByteArray) (p0_3:Int) (p0_4:Int) (p1:Int):gQ none [.agg [.int .i64 p0_0,.sl false false p0_1.length (ab (eI .i64) p0_1),.str p0_2,.int .i64 p0_3,.int .i64 p0_4],.ip [.int .i64 p1]]=(dM (aL.mk p0_0 p0_1 p0_2 p0_3 p0_4) p1).map fun r:Bool=>(.clean (.bool r),none):=aJ _ _ _ ((aL.mk p0_0 p0_1 p0_2 p0_3 p0_4),p1)
theorem qN (p0:aL) (p1:Int) (r:Bool) (hh:dM p0 p1=some r):aP .clean tab aV FU Tryz.f72 none [.agg [.int .i64 p0.ck,.sl false false p0.dD.length (ab (eI .i64) p0.dD),.str p0.cD,.int .i64 p0.aE,.int .i64 p0.aH],.ip [.int .i64 p1]]=some (.clean (.bool r),none):=by
 refine ax rfl Tryz.ntmps72 Tryz.results72 ?_
 unfold dM at hh
 cases hh
 try simp only[w,seval,-Int.reduceToNat]
theorem pM:bM Tryz.prog 72 gQ:=bM.of (mode := .clean) tok bR.none mixed Tryz.func72 (by kernel_rfl) ⟨by kernel_rfl,by kernel_rfl⟩ (fun _=>Nat.le_of_ble_eq_true (by kernel_rfl)) (fun x r h=>qN x.1 x.2 r h)
noncomputable def p9:=eN (dU (dm dQ) (dR (aI .i64))) (fun x:aw×Int=>kS x.1 x.2) (fun r:Bool =>.clean (.bool r))
theorem qW (p0_0:(List aj)) (p1:Int):p9 none [.agg [.sl false false p0_0.length (ab al p0_0)],.int .i64 p1]=(kS (aw.mk p0_0) p1).map fun r:Bool=>(.clean (.bool r),none):=aJ _ _ _ ((aw.mk p0_0),p1)
theorem LX (p0:aw) (p1:Int) (r:Bool) (hh:kS p0 p1=some r):aP .clean tab aV FU Tryz.f95 none [.agg [.sl false false p0.ag.length (ab al p0.ag)],.int .i64 p1]=some (.clean (.bool r),none):=by
 refine ax rfl Tryz.ntmps95 Tryz.results95 ?_
 unfold kS at hh
 try simp only[w,seval,-Int.reduceToNat]
 refine sp bB hh (fun _ hh =>?_) (fun _ hh =>?_)
 ·cases hh
  try simp only[w,seval,-Int.reduceToNat]
 ·cases hh
  try simp only[w,seval,-Int.reduceToNat]
theorem y4:bM Tryz.prog 95 p9:=bM.of (mode := .clean) tok bR.none mixed Tryz.func95 (by kernel_rfl) ⟨by kernel_rfl,by kernel_rfl⟩ (fun _=>Nat.le_of_ble_eq_true (by kernel_rfl)) (fun x r h=>LX x.1 x.2 r h)
noncomputable def qe:=eN (dU (dm dQ) (dR (iI (eI .i64)))) (fun x:aw×(List Int)=>jT x.1 x.2) (fun r:Bool =>.clean (.bool r))
theorem wZ (p0_0:(List aj)) (p1:(List Int)):qe none [.agg [.sl false false p0_0.length (ab al p0_0)],.sl false false p1.length (ab (eI .i64) p1)]=(jT (aw.mk p0_0) p1).map fun r:Bool=>(.clean (.bool r),none):=aJ _ _ _ ((aw.mk p0_0),p1)
noncomputable def mV:Env:=(Am.ext (Am.ext aV 39 false fc) 95 false p9)
theorem Da:bR Tryz.prog mV:=((bR.none.add gx false).add y4 false)
theorem bf:type_of% (ai @w<|ai @cO<|ai @qW<|@mV.eq_1):=⟨@w,@cO,@qW,@mV.eq_1⟩
theorem GJ (p0:aw) (p1:(List Int)) (r:Bool) (hh:jT p0 p1=some r):aP .clean tab mV FU Tryz.f150 none [.agg [.sl false false p0.ag.length (ab al p0.ag)],.sl false false p1.length (ab (eI .i64) p1)]=some (.clean (.bool r),none):=by
 refine ax rfl Tryz.ntmps150 Tryz.results150 ?_
 unfold jT at hh
 obtain⟨r1,hr1,hh⟩:=ae hh
 try simp only[bf,seval,-Int.reduceToNat,hr1]
 obtain⟨o2,ho2,hh⟩:=ae hh
 refine bW 0 (fun s t H e=>match s with|s15j1=>∃v2j1:Nat,t 1=.sl false false p1.length (ab (eI .i64) p1)∧t 2=.ptr 2 v2j1 0∧t 15=.bool s15j1∧H 2=some ⟨v2j1,24,[.sl false false p0.ag.length (ab al p0.ag)],false,false,false⟩) (fun s=>s=o2) ?_ ?_
 ·rintro s15j1 t H e ⟨v2j1,Zj1⟩ rfl
  try dsimp only at hh
  try simp only[bf,seval,-Int.reduceToNat,hr1,Zj1]
  refine sp ak hh (fun _ hh =>?_) (fun _ hh =>?_)
  ·cases hh
   try simp only[bf,seval,-Int.reduceToNat,hr1,Zj1]
  ·try simp only[bf,seval,-Int.reduceToNat,hr1,Zj1]
   obtain⟨o13,ho13,hh⟩:=ae hh
   refine az (fun s t H e=>match s with|s18b=>∃v2b:Nat,t 1=.sl false false p1.length (ab (eI .i64) p1)∧t 2=.ptr 2 v2b 0∧t 16=.sl false false p1.length (ab (eI .i64) p1)∧t 17=.int .i64 (p1.length:Int)∧t 18=.int .i64 s18b∧H 2=some ⟨v2b,24,[.sl false false p0.ag.length (ab al p0.ag)],false,false,false⟩) (fun o x t H e=>match o with|(.inl _)=>x=.exit 0|(.inr r)=>x=.ret∧gT .clean tab none [.tmp 4] ⟨t,H,e⟩=some (.clean (.bool r),none)) ho13 ?_ ?_ ?_
   ·refine⟨v2j1,?_,?_,?_,?_,?_,?_⟩
    all_goals first|rfl|(simp only[bf,seval,-Int.reduceToNat,hr1,Zj1]<;>rfl)
   ·rintro s18b t H e ⟨v2b,Zb⟩ c hh
    simp only[jA]at hh
    try simp only[bf,seval,-Int.reduceToNat,hr1,Zb]
    refine sp ak hh (fun _ hh =>?_) (fun _ hh =>?_)
    ·obtain⟨x15,hx15,hh⟩:=ae hh
     have ax15:=bH (eI .i64) hx15
     simp only[bZ]at ax15
     obtain⟨r16,hr16,hh⟩:=ae hh
     try simp only[bf,seval,-Int.reduceToNat,hr1,Zb,ax15,hr16]
     refine sp ak hh (fun _ hh =>?_) (fun _ hh =>?_)
     ·cases hh
      try simp only[bf,seval,-Int.reduceToNat,hr1,Zb,ax15,hr16]
      refine yW ⟨rfl,?_⟩
      try simp only[bf,seval,-Int.reduceToNat,hr1,Zb,ax15,hr16]
     ·try simp only[bf,seval,-Int.reduceToNat,hr1,Zb,ax15,hr16]
      refine sp ak hh (fun _ hh =>?_) (fun _ hh =>?_)
      ·obtain⟨x19,hx19,hh⟩:=ae hh
       have ax19:=bH (eI .i64) hx19
       simp only[bZ]at ax19
       obtain⟨x20,hx20,hh⟩:=ae hh
       have ax20:=bH al hx20
       simp only[bZ]at ax20
       try simp only[bf,seval,-Int.reduceToNat,hr1,Zb,ax15,hr16,ax19,ax20]
       refine cj (by kernel_rfl) ?_
       try simp only[bf,seval,-Int.reduceToNat,hr1,Zb,ax15,hr16,ax19,ax20]
       refine sp bB hh (fun _ hh =>?_) (fun _ hh =>?_)
       ·try simp only[bf,seval,-Int.reduceToNat,hr1,Zb,ax15,hr16,ax19,ax20]
        refine sp ak hh (fun _ hh =>?_) (fun _ hh =>?_)
        ·cases hh
         try simp only[bf,seval,-Int.reduceToNat,hr1,Zb,ax15,hr16,ax19,ax20]
         refine yW ⟨rfl,?_⟩
         try simp only[bf,seval,-Int.reduceToNat,hr1,Zb,ax15,hr16,ax19,ax20]
        ·cases hh
         try simp only[bf,seval,-Int.reduceToNat,hr1,Zb,ax15,hr16,ax19,ax20]
         refine jg ?_
         refine⟨v2b,?_,?_,?_,?_,?_,?_⟩
         all_goals first|rfl|(simp only[bf,seval,-Int.reduceToNat,hr1,Zb,ax15,hr16,ax19,ax20]<;>rfl)
       ·cases hh
        try simp only[bf,seval,-Int.reduceToNat,hr1,Zb,ax15,hr16,ax19,ax20]
        refine jg ?_
        refine⟨v2b,?_,?_,?_,?_,?_,?_⟩
        all_goals first|rfl|(simp only[bf,seval,-Int.reduceToNat,hr1,Zb,ax15,hr16,ax19,ax20]<;>rfl)
      ·cases hh
       try simp only[bf,seval,-Int.reduceToNat,hr1,Zb,ax15,hr16]
       refine jg ?_
       refine⟨v2b,?_,?_,?_,?_,?_,?_⟩
       all_goals first|rfl|(simp only[bf,seval,-Int.reduceToNat,hr1,Zb,ax15,hr16]<;>rfl)
    ·cases hh
     try simp only[bf,seval,-Int.reduceToNat,hr1,Zb]
     refine kX ?_
     exact rfl
   ·rintro x t H e hx
    rcases o13 with _|rb
    ·dsimp only at hx hh
     subst hx
     cases hh
     try simp only[bf,seval,-Int.reduceToNat,hr1]
    ·dsimp only at hx hh
     obtain⟨rfl,hE⟩:=hx
     cases hh
     try simp only[bq,bh,bF,dw,du]
     exact hE
 ·clear hh
  have hh:=ho2
  try simp only[bf,seval,-Int.reduceToNat,hr1]
  refine sp aX hh (fun _ hh =>?_) (fun _ hh =>?_)
  ·cases hh
   try simp only[bf,seval,-Int.reduceToNat,hr1]
   rw[an]
   refine⟨_,rfl,?_⟩
   refine⟨0,?_,?_,?_,?_⟩
   all_goals first|rfl|(simp only[bf,seval,-Int.reduceToNat,hr1]<;>rfl)
  ·cases hh
   try simp only[bf,seval,-Int.reduceToNat,hr1]
   rw[an]
   refine⟨_,rfl,?_⟩
   refine⟨0,?_,?_,?_,?_⟩
   all_goals first|rfl|(simp only[bf,seval,-Int.reduceToNat,hr1]<;>rfl)
theorem DB:bM Tryz.prog 150 qe:=bM.of (mode := .clean) tok Da mixed Tryz.func150 (by kernel_rfl) ⟨by kernel_rfl,by kernel_rfl⟩ (fun _=>Nat.le_of_ble_eq_true (by kernel_rfl)) (fun x r h=>GJ x.1 x.2 r h)
noncomputable def lG:=eN (dR (dm al)) (fun x:aj=>fk x) (fun r:Bool =>.clean (.bool r))
theorem lV (p0_0:ByteArray) (p0_1:Int) (p0_2:Int) (p0_3:Int) (p0_4:Int):lG none [.agg [.str p0_0,.int .i64 p0_1,.int .i64 p0_2,.int .i64 p0_3,.int .i64 p0_4]]=(fk (aj.mk p0_0 p0_1 p0_2 p0_3 p0_4)).map fun r:Bool=>(.clean (.bool r),none):=aJ _ _ _ ((aj.mk p0_0 p0_1 p0_2 p0_3 p0_4))
theorem Dq (p0:aj) (r:Bool) (hh:fk p0=some r):aP .clean tab aV FU Tryz.f123 none [.agg [.str p0.cD,.int .i64 p0.aE,.int .i64 p0.aH,.int .i64 p0.bk,.int .i64 p0.bd]]=some (.clean (.bool r),none):=by
 refine ax rfl Tryz.ntmps123 Tryz.results123 ?_
 unfold fk at hh
 cases hh
 try simp only[w,seval,-Int.reduceToNat]
theorem tj:bM Tryz.prog 123 lG:=bM.of (mode := .clean) tok bR.none mixed Tryz.func123 (by kernel_rfl) ⟨by kernel_rfl,by kernel_rfl⟩ (fun _=>Nat.le_of_ble_eq_true (by kernel_rfl)) (fun x r h=>Dq x r h)
noncomputable def lH:=eN (dU (dm dQ) (dU (aI .i64) (dU Ts (dU (aI .i64) (dR (aI .i64)))))) (fun x:aw×Int×ByteArray×Int×Int=>gN x.1 x.2.1 x.2.2.1 x.2.2.2.1 x.2.2.2.2) (fun r:Bool =>.clean (.bool r))
theorem lW (p0_0:(List aj)) (p1:Int) (p2:ByteArray) (p3:Int) (p4:Int):lH none [.agg [.sl false false p0_0.length (ab al p0_0)],.int .i64 p1,.str p2,.int .i64 p3,.int .i64 p4]=(gN (aw.mk p0_0) p1 p2 p3 p4).map fun r:Bool=>(.clean (.bool r),none):=aJ _ _ _ ((aw.mk p0_0),p1,p2,p3,p4)
noncomputable def lQ:Env:=(Am.ext (Am.ext aV 39 false fc) 91 false iM)
theorem BF:bR Tryz.prog lQ:=((bR.none.add gx false).add mz false)
theorem cR:type_of% (ai @w<|ai @cO<|ai @gz<|@lQ.eq_1):=⟨@w,@cO,@gz,@lQ.eq_1⟩
theorem Dr (p0:aw) (p1:Int) (p2:ByteArray) (p3:Int) (p4:Int) (r:Bool) (hh:gN p0 p1 p2 p3 p4=some r):aP .clean tab lQ FU Tryz.f84 none [.agg [.sl false false p0.ag.length (ab al p0.ag)],.int .i64 p1,.str p2,.int .i64 p3,.int .i64 p4]=some (.clean (.bool r),none):=by
 refine ax rfl Tryz.ntmps84 Tryz.results84 ?_
 unfold gN at hh
 obtain⟨r1,hr1,hh⟩:=ae hh
 try simp only[cR,seval,-Int.reduceToNat,hr1]
 obtain⟨o2,ho2,hh⟩:=ae hh
 refine bW 0 (fun s t H e=>match s with|s23j1=>∃v5j1:Nat,t 1=.int .i64 p1∧t 2=.str p2∧t 3=.int .i64 p3∧t 4=.int .i64 p4∧t 5=.ptr 5 v5j1 0∧t 23=.bool s23j1∧H 5=some ⟨v5j1,24,[.sl false false p0.ag.length (ab al p0.ag)],false,false,false⟩) (fun s=>s=o2) ?_ ?_
 ·rintro s23j1 t H e ⟨v5j1,Zj1⟩ rfl
  try dsimp only at hh
  try simp only[cR,seval,-Int.reduceToNat,hr1,Zj1]
  refine sp ak hh (fun _ hh =>?_) (fun _ hh =>?_)
  ·cases hh
   try simp only[cR,seval,-Int.reduceToNat,hr1,Zj1]
  ·obtain⟨x4,hx4,hh⟩:=ae hh
   have ax4:=bH al hx4
   simp only[bZ]at ax4
   try simp only[cR,seval,-Int.reduceToNat,hr1,Zj1,ax4]
   refine sp bB hh (fun _ hh =>?_) (fun _ hh =>?_)
   ·try simp only[cR,seval,-Int.reduceToNat,hr1,Zj1,ax4]
    refine sp bB hh (fun _ hh =>?_) (fun _ hh =>?_)
    ·cases hh
     try simp only[cR,seval,-Int.reduceToNat,hr1,Zj1,ax4]
    ·cases hh
     try simp only[cR,seval,-Int.reduceToNat,hr1,Zj1,ax4]
   ·cases hh
    try simp only[cR,seval,-Int.reduceToNat,hr1,Zj1,ax4]
 ·clear hh
  have hh:=ho2
  try simp only[cR,seval,-Int.reduceToNat,hr1]
  refine sp aX hh (fun _ hh =>?_) (fun _ hh =>?_)
  ·cases hh
   try simp only[cR,seval,-Int.reduceToNat,hr1]
   rw[an]
   refine⟨_,rfl,?_⟩
   refine⟨0,?_,?_,?_,?_,?_,?_,?_⟩
   all_goals first|rfl|(simp only[cR,seval,-Int.reduceToNat,hr1]<;>rfl)
  ·obtain⟨r8,hr8,hh⟩:=ae hh
   cases hh
   try simp only[cR,seval,-Int.reduceToNat,hr1,hr8]
   rw[an]
   refine⟨_,rfl,?_⟩
   refine⟨0,?_,?_,?_,?_,?_,?_,?_⟩
   all_goals first|rfl|(simp only[cR,seval,-Int.reduceToNat,hr1,hr8]<;>rfl)
theorem tk:bM Tryz.prog 84 lH:=bM.of (mode := .clean) tok BF mixed Tryz.func84 (by kernel_rfl) ⟨by kernel_rfl,by kernel_rfl⟩ (fun _=>Nat.le_of_ble_eq_true (by kernel_rfl)) (fun x r h=>Dr x.1 x.2.1 x.2.2.1 x.2.2.2.1 x.2.2.2.2 r h)
noncomputable def p8:=eN (dU (dm dQ) (dU (iI (eI .i64)) (dU (aI .i64) (dU (aI .i64) (dU Ts (dU (aI .i64) (dR (aI .i64)))))))) (fun x:aw×(List Int)×Int×Int×ByteArray×Int×Int=>jR x.1 x.2.1 x.2.2.1 x.2.2.2.1 x.2.2.2.2.1 x.2.2.2.2.2.1 x.2.2.2.2.2.2) (fun r:Bool =>.clean (.bool r))
theorem wX (p0_0:(List aj)) (p1:(List Int)) (p2:Int) (p3:Int) (p4:ByteArray) (p5:Int) (p6:Int):p8 none [.agg [.sl false false p0_0.length (ab al p0_0)],.sl false false p1.length (ab (eI .i64) p1),.int .i64 p2,.int .i64 p3,.str p4,.int .i64 p5,.int .i64 p6]=(jR (aw.mk p0_0) p1 p2 p3 p4 p5 p6).map fun r:Bool=>(.clean (.bool r),none):=aJ _ _ _ ((aw.mk p0_0),p1,p2,p3,p4,p5,p6)
noncomputable def mT:Env:=(Am.ext (Am.ext (Am.ext aV 84 false lH) 123 false lG) 150 false qe)
theorem C8:bR Tryz.prog mT:=(((bR.none.add tk false).add tj false).add DB false)
theorem eM:type_of% (ai @w<|ai @lW<|ai @lV<|ai @wZ<|@mT.eq_1):=⟨@w,@lW,@lV,@wZ,@mT.eq_1⟩
theorem GH (p0:aw) (p1:(List Int)) (p2:Int) (p3:Int) (p4:ByteArray) (p5:Int) (p6:Int) (r:Bool) (hh:jR p0 p1 p2 p3 p4 p5 p6=some r):aP .clean tab mT FU Tryz.f108 none [.agg [.sl false false p0.ag.length (ab al p0.ag)],.sl false false p1.length (ab (eI .i64) p1),.int .i64 p2,.int .i64 p3,.str p4,.int .i64 p5,.int .i64 p6]=some (.clean (.bool r),none):=by
 refine ax rfl Tryz.ntmps108 Tryz.results108 ?_
 unfold jR at hh
 obtain⟨r1,hr1,hh⟩:=ae hh
 try simp only[eM,seval,-Int.reduceToNat,hr1]
 refine sp ak hh (fun _ hh =>?_) (fun _ hh =>?_)
 ·cases hh
  try simp only[eM,seval,-Int.reduceToNat,hr1]
 ·obtain⟨x3,hx3,hh⟩:=ae hh
  have ax3:=bH (eI .i64) hx3
  simp only[bZ]at ax3
  obtain⟨x4,hx4,hh⟩:=ae hh
  have ax4:=bH al hx4
  simp only[bZ]at ax4
  obtain⟨x5,hx5,hh⟩:=ae hh
  have ax5:=bH (eI .i64) hx5
  simp only[bZ]at ax5
  try simp only[eM,seval,-Int.reduceToNat,hr1,ax3,ax4,ax5]
  refine cj (by kernel_rfl) ?_
  try simp only[eM,seval,-Int.reduceToNat,hr1,ax3,ax4,ax5]
  refine sp bB hh (fun _ hh =>?_) (fun _ hh =>?_)
  ·try simp only[eM,seval,-Int.reduceToNat,hr1,ax3,ax4,ax5]
   refine sp bB hh (fun _ hh =>?_) (fun _ hh =>?_)
   ·obtain⟨x8,hx8,hh⟩:=ae hh
    have ax8:=bH al hx8
    simp only[bZ]at ax8
    obtain⟨r9,hr9,hh⟩:=ae hh
    try simp only[eM,seval,-Int.reduceToNat,hr1,ax3,ax4,ax5,ax8,hr9]
    refine sp bB hh (fun _ hh =>?_) (fun _ hh =>?_)
    ·obtain⟨r11,hr11,hh⟩:=ae hh
     cases hh
     try simp only[eM,seval,-Int.reduceToNat,hr1,ax3,ax4,ax5,ax8,hr9,hr11]
    ·cases hh
     try simp only[eM,seval,-Int.reduceToNat,hr1,ax3,ax4,ax5,ax8,hr9]
   ·cases hh
    try simp only[eM,seval,-Int.reduceToNat,hr1,ax3,ax4,ax5]
  ·cases hh
   try simp only[eM,seval,-Int.reduceToNat,hr1,ax3,ax4,ax5]
theorem Dz:bM Tryz.prog 108 p8:=bM.of (mode := .clean) tok C8 mixed Tryz.func108 (by kernel_rfl) ⟨by kernel_rfl,by kernel_rfl⟩ (fun _=>Nat.le_of_ble_eq_true (by kernel_rfl)) (fun x r h=>GH x.1 x.2.1 x.2.2.1 x.2.2.2.1 x.2.2.2.2.1 x.2.2.2.2.2.1 x.2.2.2.2.2.2 r h)
noncomputable def ji:=eN (dU (dm zZ) (dR (dm bU))) (fun x:jN×aL=>dW x.1 x.2) (fun r:Bool =>.clean (.bool r))
theorem mF (p0_0:(List aj)) (p0_1:Int) (p0_2:Int) (p0_3:Int) (p1_0:Int) (p1_1:(List Int)) (p1_2:ByteArray) (p1_3:Int) (p1_4:Int):ji none [.agg [.sl false false p0_0.length (ab al p0_0),.int .i64 p0_1,.int .i64 p0_2,.int .i64 p0_3],.agg [.int .i64 p1_0,.sl false false p1_1.length (ab (eI .i64) p1_1),.str p1_2,.int .i64 p1_3,.int .i64 p1_4]]=(dW (jN.mk (aw.mk p0_0) p0_1 p0_2 p0_3) (aL.mk p1_0 p1_1 p1_2 p1_3 p1_4)).map fun r:Bool=>(.clean (.bool r),none):=aJ _ _ _ ((jN.mk (aw.mk p0_0) p0_1 p0_2 p0_3),(aL.mk p1_0 p1_1 p1_2 p1_3 p1_4))
noncomputable def gp:Env:=(Am.ext aV 108 false p8)
theorem sT:bR Tryz.prog gp:=(bR.none.add Dz false)
theorem b7:type_of% (ai @w<|ai @wX<|@gp.eq_1):=⟨@w,@wX,@gp.eq_1⟩
theorem uw (p0:jN) (p1:aL) (r:Bool) (hh:dW p0 p1=some r):aP .clean tab gp FU Tryz.f73 none [.agg [.sl false false p0.TM.ag.length (ab al p0.TM.ag),.int .i64 p0.xL,.int .i64 p0.tO,.int .i64 p0.tN],.agg [.int .i64 p1.ck,.sl false false p1.dD.length (ab (eI .i64) p1.dD),.str p1.cD,.int .i64 p1.aE,.int .i64 p1.aH]]=some (.clean (.bool r),none):=by
 refine ax rfl Tryz.ntmps73 Tryz.results73 ?_
 unfold dW at hh
 try simp only[b7,seval,-Int.reduceToNat]
 refine sp oV hh (fun _ hh =>?_) (fun _ hh =>?_)
 ·obtain⟨x2,hx2,hh⟩:=ae hh
  have ax2:=bH (eI .i64) hx2
  simp only[bZ]at ax2
  try simp only[b7,seval,-Int.reduceToNat,ax2]
  refine sp oV hh (fun _ hh =>?_) (fun _ hh =>?_)
  ·obtain⟨x4,hx4,hh⟩:=ae hh
   have ax4:=bH (eI .i64) hx4
   simp only[bZ]at ax4
   try simp only[b7,seval,-Int.reduceToNat,ax2,ax4]
   refine sp oV hh (fun _ hh =>?_) (fun _ hh =>?_)
   ·obtain⟨r6,hr6,hh⟩:=ae hh
    try simp only[b7,seval,-Int.reduceToNat,ax2,ax4,hr6]
    refine cj (by kernel_rfl) ?_
    cases hh
    try simp only[b7,seval,-Int.reduceToNat,ax2,ax4,hr6]
   ·try simp only[b7,seval,-Int.reduceToNat,ax2,ax4]
    refine cj (by kernel_rfl) ?_
    cases hh
    try simp only[b7,seval,-Int.reduceToNat,ax2,ax4]
  ·try simp only[b7,seval,-Int.reduceToNat,ax2]
   refine cj (by kernel_rfl) ?_
   cases hh
   try simp only[b7,seval,-Int.reduceToNat,ax2]
 ·try simp only[b7,seval,-Int.reduceToNat]
  refine cj (by kernel_rfl) ?_
  cases hh
  try simp only[b7,seval,-Int.reduceToNat]
theorem s8:bM Tryz.prog 73 ji:=bM.of (mode := .clean) tok sT mixed Tryz.func73 (by kernel_rfl) ⟨by kernel_rfl,by kernel_rfl⟩ (fun _=>Nat.le_of_ble_eq_true (by kernel_rfl)) (fun x r h=>uw x.1 x.2 r h)
noncomputable def Aj:=eN (dR (aI .i64)) (fun x:Int=>sr x) (fun r:ay =>.clean (.agg [.int .i64 r.ah,.sl false false r.aa.length (ab (eI .i64) r.aa)]))
theorem Kb (p0:Int):Aj none [.int .i64 p0]=(sr p0).map fun r:ay=>(.clean (.agg [.int .i64 r.ah,.sl false false r.aa.length (ab (eI .i64) r.aa)]),none):=aJ _ _ _ (p0)
noncomputable def wD:Env:=(Am.ext aV 126 false ki)
theorem Pd:bR Tryz.prog wD:=(bR.none.add pe false)
theorem gg:type_of% (ai @w<|ai @jb<|@wD.eq_1):=⟨@w,@jb,@wD.eq_1⟩
theorem RG (p0:Int) (r:ay) (hh:sr p0=some r):aP .clean tab wD FU Tryz.f109 none [.int .i64 p0]=some (.clean (.agg [.int .i64 r.ah,.sl false false r.aa.length (ab (eI .i64) r.aa)]),none):=by
 refine ax rfl Tryz.ntmps109 Tryz.results109 ?_
 unfold sr at hh
 try simp only[gg,seval,-Int.reduceToNat]
 obtain⟨o1,ho1,hh⟩:=ae hh
 refine mm 0 (fun s t H e=>match s with|(s3j1,s4j1)=>∃v2j1:Nat,t 2=.ptr 2 v2j1 0∧t 3=.int .i64 s3j1∧t 4=.int .u64 s4j1∧H 2=some ⟨v2j1,49,[.int .i64 0,.sl true true 0 []],false,false,false⟩) (fun s=>s=o1) ?_ ?_
 ·rintro⟨s3j1,s4j1⟩ t H e ⟨v2j1,Zj1⟩ rfl
  try dsimp only at hh
  try simp only[gg,seval,-Int.reduceToNat,Zj1]
  obtain⟨o7,ho7,hh⟩:=ae hh
  refine az (fun s t H e=>match s with|(s4b,l5b)=>∃v2b:Nat,∃v5b:Nat,t 2=.ptr 2 v2b 0∧t 3=.int .i64 s3j1∧t 4=.int .u64 s4b∧t 5=.buf 5 v5b 1 0 (l5b).length∧H 2=some ⟨v2b,49,[.int .i64 0,.sl true true 0 []],false,false,false⟩∧H 5=some ⟨v5b,3,ab (eI .i64) l5b,false,true,false⟩) (fun o x t H e=>match o with|l5bx=>x=.exit 0∧∃v2bx:Nat,∃v5bx:Nat,t 2=.ptr 2 v2bx 0∧t 3=.int .i64 s3j1∧t 5=.buf 5 v5bx 1 0 (l5bx).length∧H 2=some ⟨v2bx,49,[.int .i64 0,.sl true true 0 []],false,false,false⟩∧H 5=some ⟨v5bx,3,ab (eI .i64) l5bx,false,true,false⟩) ho7 ?_ ?_ ?_
  ·refine⟨v2j1,e,?_,?_,?_,?_,?_,?_⟩
   all_goals first|rfl|(simp only[gg,seval,-Int.reduceToNat,Zj1]<;>rfl)
  ·rintro⟨s4b,l5b⟩ t H e ⟨v2b,v5b,Zb⟩ c hh
   simp only[tH]at hh
   try simp only[gg,seval,-Int.reduceToNat,Zb]
   refine sp ak hh (fun _ hh =>?_) (fun _ hh =>?_)
   ·obtain⟨x9,hx9,hh⟩:=ae hh
    obtain⟨q10a,q10b,q10c,q10d⟩:=ey (eI .i64) hx9
    simp only[bZ]at q10b
    obtain⟨x11,hx11,hh⟩:=ae hh
    have q12:=oT hx11
    cases hh
    try simp only[gg,seval,-Int.reduceToNat,Zb,q10a,q10b,q10c,q10d,q12]
    refine jg ?_
    refine⟨v2b,e+1,?_,?_,?_,?_,?_,?_⟩
    all_goals first|rfl|(simp only[gg,seval,-Int.reduceToNat,Zb,q10a,q10b,q10c,q10d,q12]<;>rfl)
   ·cases hh
    try simp only[gg,seval,-Int.reduceToNat,Zb]
    refine kX ?_
    refine⟨rfl,⟨v2b,v5b,?_,?_,?_,?_,?_⟩⟩
    all_goals first|rfl|(simp only[gg,seval,-Int.reduceToNat,Zb]<;>rfl)
  ·rintro x t H e hx
   obtain⟨l5bx,rfl⟩:∃z,z=o7:=⟨_,rfl⟩
   dsimp only at hx hh
   obtain⟨rfl,⟨v2bx,v5bx,Zbx⟩⟩:=hx
   obtain⟨r13,hr13,hh⟩:=ae hh
   cases hh
   try simp only[gg,seval,-Int.reduceToNat,Zbx,hr13]
 ·clear hh
  have hh:=ho1
  try simp only[gg,seval,-Int.reduceToNat]
  refine sp ak hh (fun _ hh =>?_) (fun _ hh =>?_)
  ·cases hh
   try simp only[gg,seval,-Int.reduceToNat]
   rw[an]
   refine⟨_,rfl,?_⟩
   refine⟨0,?_,?_,?_,?_⟩
   all_goals first|rfl|(simp only[gg,seval,-Int.reduceToNat]<;>rfl)
  ·cases hh
   try simp only[gg,seval,-Int.reduceToNat]
   rw[an]
   refine⟨_,rfl,?_⟩
   refine⟨0,?_,?_,?_,?_⟩
   all_goals first|rfl|(simp only[gg,seval,-Int.reduceToNat]<;>rfl)
theorem PE:bM Tryz.prog 109 Aj:=bM.of (mode := .clean) tok Pd mixed Tryz.func109 (by kernel_rfl) ⟨by kernel_rfl,by kernel_rfl⟩ (fun _=>Nat.le_of_ble_eq_true (by kernel_rfl)) (fun x r h=>RG x r h)
noncomputable def vf:=eN (dR (aI .i64)) (fun x:Int=>nT x) (fun r:aT =>.clean (.agg [.int .i64 r.cu.ah,.sl false false r.cu.aa.length (ab (eI .i64) r.cu.aa),.int .i64 r.ct.ah,.sl false false r.ct.aa.length (ab (eI .i64) r.ct.aa)]))
theorem Cg (p0:Int):vf none [.int .i64 p0]=(nT p0).map fun r:aT=>(.clean (.agg [.int .i64 r.cu.ah,.sl false false r.cu.aa.length (ab (eI .i64) r.cu.aa),.int .i64 r.ct.ah,.sl false false r.ct.aa.length (ab (eI .i64) r.ct.aa)]),none):=aJ _ _ _ (p0)
noncomputable def qB:Env:=(Am.ext aV 109 false Aj)
theorem IK:bR Tryz.prog qB:=(bR.none.add PE false)
theorem MM:type_of% (ai @w<|ai @Kb<|@qB.eq_1):=⟨@w,@Kb,@qB.eq_1⟩
theorem LJ (p0:Int) (r:aT) (hh:nT p0=some r):aP .clean tab qB FU Tryz.f74 none [.int .i64 p0]=some (.clean (.agg [.int .i64 r.cu.ah,.sl false false r.cu.aa.length (ab (eI .i64) r.cu.aa),.int .i64 r.ct.ah,.sl false false r.ct.aa.length (ab (eI .i64) r.ct.aa)]),none):=by
 refine ax rfl Tryz.ntmps74 Tryz.results74 ?_
 unfold nT at hh
 obtain⟨r1,hr1,hh⟩:=ae hh
 obtain⟨r2,hr2,hh⟩:=ae hh
 cases hh
 try simp only[MM,seval,-Int.reduceToNat,hr1,hr2]
theorem J1:bM Tryz.prog 74 vf:=bM.of (mode := .clean) tok IK mixed Tryz.func74 (by kernel_rfl) ⟨by kernel_rfl,by kernel_rfl⟩ (fun _=>Nat.le_of_ble_eq_true (by kernel_rfl)) (fun x r h=>LJ x r h)
noncomputable def pZ:=eN (dU (dm eZ) (dR (dm lj))) (fun x:cr×aT=>jx x.1 x.2) (fun r:Bool =>.clean (.bool r))
theorem qV (p0_0:Int) (p0_1:(List Int)) (p0_2:Int) (p0_3:(List Int)) (p0_4:Int) (p0_5:(List Int)) (p0_6:Int) (p0_7:(List Int)) (p1_0:Int) (p1_1:(List Int)) (p1_2:Int) (p1_3:(List Int)):pZ none [.agg [.int .i64 p0_0,.sl false false p0_1.length (ab (eI .i64) p0_1),.int .i64 p0_2,.sl false false p0_3.length (ab (eI .i64) p0_3),.int .i64 p0_4,.sl false false p0_5.length (ab (eI .i64) p0_5),.int .i64 p0_6,.sl false false p0_7.length (ab (eI .i64) p0_7)],.agg [.int .i64 p1_0,.sl false false p1_1.length (ab (eI .i64) p1_1),.int .i64 p1_2,.sl false false p1_3.length (ab (eI .i64) p1_3)]]=(jx (cr.mk (aT.mk (ay.mk p0_0 p0_1) (ay.mk p0_2 p0_3)) (aT.mk (ay.mk p0_4 p0_5) (ay.mk p0_6 p0_7))) (aT.mk (ay.mk p1_0 p1_1) (ay.mk p1_2 p1_3))).map fun r:Bool=>(.clean (.bool r),none):=aJ _ _ _ ((cr.mk (aT.mk (ay.mk p0_0 p0_1) (ay.mk p0_2 p0_3)) (aT.mk (ay.mk p0_4 p0_5) (ay.mk p0_6 p0_7))),(aT.mk (ay.mk p1_0 p1_1) (ay.mk p1_2 p1_3)))
noncomputable def qJ:Env:=(Am.ext (Am.ext (Am.ext aV 30 false ko) 57 false kl) 58 false kj)
theorem IU:bR Tryz.prog qJ:=(((bR.none.add pg false).add pf false).add rK false)
theorem jW:type_of% (ai @w<|ai @jd<|ai @jc<|ai @kJ<|@qJ.eq_1):=⟨@w,@jd,@jc,@kJ,@qJ.eq_1⟩
theorem LW (p0:cr) (p1:aT) (r:Bool) (hh:jx p0 p1=some r):aP .clean tab qJ FU Tryz.f31 none [.agg [.int .i64 p0.bn.cu.ah,.sl false false p0.bn.cu.aa.length (ab (eI .i64) p0.bn.cu.aa),.int .i64 p0.bn.ct.ah,.sl false false p0.bn.ct.aa.length (ab (eI .i64) p0.bn.ct.aa),.int .i64 p0.aM.cu.ah,.sl false false p0.aM.cu.aa.length (ab (eI .i64) p0.aM.cu.aa),.int .i64 p0.aM.ct.ah,.sl false false p0.aM.ct.aa.length (ab (eI .i64) p0.aM.ct.aa)],.agg [.int .i64 p1.cu.ah,.sl false false p1.cu.aa.length (ab (eI .i64) p1.cu.aa),.int .i64 p1.ct.ah,.sl false false p1.ct.aa.length (ab (eI .i64) p1.ct.aa)]]=some (.clean (.bool r),none):=by
 refine ax rfl Tryz.ntmps31 Tryz.results31 ?_
 unfold jx at hh
 obtain⟨r1,hr1,hh⟩:=ae hh
 try simp only[jW,seval,-Int.reduceToNat,hr1]
 refine sp bB hh (fun _ hh =>?_) (fun _ hh =>?_)
 ·obtain⟨r3,hr3,hh⟩:=ae hh
  try simp only[jW,seval,-Int.reduceToNat,hr1,hr3]
  refine sp bB hh (fun _ hh =>?_) (fun _ hh =>?_)
  ·obtain⟨r5,hr5,hh⟩:=ae hh
   try simp only[jW,seval,-Int.reduceToNat,hr1,hr3,hr5]
   refine sp bB hh (fun _ hh =>?_) (fun _ hh =>?_)
   ·obtain⟨r7,hr7,hh⟩:=ae hh
    cases hh
    try simp only[jW,seval,-Int.reduceToNat,hr1,hr3,hr5,hr7]
   ·cases hh
    try simp only[jW,seval,-Int.reduceToNat,hr1,hr3,hr5]
  ·cases hh
   try simp only[jW,seval,-Int.reduceToNat,hr1,hr3]
 ·cases hh
  try simp only[jW,seval,-Int.reduceToNat,hr1]
theorem y3:bM Tryz.prog 31 pZ:=bM.of (mode := .clean) tok IU mixed Tryz.func31 (by kernel_rfl) ⟨by kernel_rfl,by kernel_rfl⟩ (fun _=>Nat.le_of_ble_eq_true (by kernel_rfl)) (fun x r h=>LW x.1 x.2 r h)
noncomputable def gR:=eN (dU (dm bc) (dU (Qo (eI .i64)) (dR (Qo lj)))) (fun x:aB×Int×aT=>dN x.1 x.2.1 x.2.2) (fun r:Bool =>.clean (.bool r))
theorem kI (p0_0:Int) (p0_1:Int) (p0_2:(List Int)) (p0_3:Int) (p0_4:(List Int)) (p0_5:Int) (p0_6:(List Int)) (p0_7:Int) (p0_8:(List Int)) (p1:Int) (p2_0:Int) (p2_1:(List Int)) (p2_2:Int) (p2_3:(List Int)):gR none [.agg [.int .i64 p0_0,.int .i64 p0_1,.sl false false p0_2.length (ab (eI .i64) p0_2),.int .i64 p0_3,.sl false false p0_4.length (ab (eI .i64) p0_4),.int .i64 p0_5,.sl false false p0_6.length (ab (eI .i64) p0_6),.int .i64 p0_7,.sl false false p0_8.length (ab (eI .i64) p0_8)],.ip [.int .i64 p1],.ip [.int .i64 p2_0,.sl false false p2_1.length (ab (eI .i64) p2_1),.int .i64 p2_2,.sl false false p2_3.length (ab (eI .i64) p2_3)]]=(dN (aB.mk p0_0 (cr.mk (aT.mk (ay.mk p0_1 p0_2) (ay.mk p0_3 p0_4)) (aT.mk (ay.mk p0_5 p0_6) (ay.mk p0_7 p0_8)))) p1 (aT.mk (ay.mk p2_0 p2_1) (ay.mk p2_2 p2_3))).map fun r:Bool=>(.clean (.bool r),none):=aJ _ _ _ ((aB.mk p0_0 (cr.mk (aT.mk (ay.mk p0_1 p0_2) (ay.mk p0_3 p0_4)) (aT.mk (ay.mk p0_5 p0_6) (ay.mk p0_7 p0_8)))),p1,(aT.mk (ay.mk p2_0 p2_1) (ay.mk p2_2 p2_3)))
noncomputable def fa:Env:=(Am.ext aV 31 false pZ)
theorem pC:bR Tryz.prog fa:=(bR.none.add y3 false)
theorem gY:type_of% (ai @w<|ai @qV<|@fa.eq_1):=⟨@w,@qV,@fa.eq_1⟩
theorem qO (p0:aB) (p1:Int) (p2:aT) (r:Bool) (hh:dN p0 p1 p2=some r):aP .clean tab fa FU Tryz.f75 none [.agg [.int .i64 p0.ck,.int .i64 p0.bG.bn.cu.ah,.sl false false p0.bG.bn.cu.aa.length (ab (eI .i64) p0.bG.bn.cu.aa),.int .i64 p0.bG.bn.ct.ah,.sl false false p0.bG.bn.ct.aa.length (ab (eI .i64) p0.bG.bn.ct.aa),.int .i64 p0.bG.aM.cu.ah,.sl false false p0.bG.aM.cu.aa.length (ab (eI .i64) p0.bG.aM.cu.aa),.int .i64 p0.bG.aM.ct.ah,.sl false false p0.bG.aM.ct.aa.length (ab (eI .i64) p0.bG.aM.ct.aa)],.ip [.int .i64 p1],.ip [.int .i64 p2.cu.ah,.sl false false p2.cu.aa.length (ab (eI .i64) p2.cu.aa),.int .i64 p2.ct.ah,.sl false false p2.ct.aa.length (ab (eI .i64) p2.ct.aa)]]=some (.clean (.bool r),none):=by
 refine ax rfl Tryz.ntmps75 Tryz.results75 ?_
 unfold dN at hh
 try simp only[gY,seval,-Int.reduceToNat]
 refine sp bB hh (fun _ hh =>?_) (fun _ hh =>?_)
 ·obtain⟨r2,hr2,hh⟩:=ae hh
  cases hh
  try simp only[gY,seval,-Int.reduceToNat,hr2]
 ·cases hh
  try simp only[gY,seval,-Int.reduceToNat]
theorem pN:bM Tryz.prog 75 gR:=bM.of (mode := .clean) tok pC mixed Tryz.func75 (by kernel_rfl) ⟨by kernel_rfl,by kernel_rfl⟩ (fun _=>Nat.le_of_ble_eq_true (by kernel_rfl)) (fun x r h=>qO x.1 x.2.1 x.2.2 r h)
noncomputable def cJ:=eN (dU (iI bU) (dR (Qn 72 0 (dR (Qo (eI .i64)))))) (fun x:(List aL)×(Int)=>a7 x.1 x.2) (fun r:Int =>.clean (.int .i64 r))
theorem dZ (p0:(List aL)) (p1c0:Int):cJ none [.sl false false p0.length (ab bU p0),.clo 72 0 [.ip [.int .i64 p1c0]]]=(a7 p0 p1c0).map fun r:Int=>(.clean (.int .i64 r),none):=aJ _ _ _ (p0,(p1c0))
noncomputable def b9:Env:=(Am.ext aV 72 false gQ)
theorem gE:bR Tryz.prog b9:=(bR.none.add pM false)
theorem aC:type_of% (ai @w<|ai @kH<|@b9.eq_1):=⟨@w,@kH,@b9.eq_1⟩
theorem gV (p0:(List aL)) (p1c0:Int) (r:Int) (hh:a7 p0 p1c0=some r):aP .clean tab b9 FU Tryz.f71 none [.sl false false p0.length (ab bU p0),.clo 72 0 [.ip [.int .i64 p1c0]]]=some (.clean (.int .i64 r),none):=by
 refine ax rfl Tryz.ntmps71 Tryz.results71 ?_
 unfold a7 at hh
 try simp only[aC,seval,-Int.reduceToNat]
 obtain⟨o5,ho5,hh⟩:=ae hh
 refine az (fun s t H e=>match s with|s8a=>t 0=.sl false false p0.length (ab bU p0)∧t 1=.clo 72 0 [.ip [.int .i64 p1c0]]∧t 7=.int .i64 (p0.length:Int)∧t 8=.int .i64 s8a) (fun o x t H e=>match o with|(.inl _)=>x=.exit 0|(.inr r)=>x=.ret∧gT .clean tab none [.tmp 4] ⟨t,H,e⟩=some (.clean (.int .i64 r),none)) ho5 ?_ ?_ ?_
 ·refine⟨?_,?_,?_,?_⟩
  all_goals first|rfl|(simp only[aC,seval,-Int.reduceToNat]<;>rfl)
 ·rintro s8a t H e Za c hh
  simp only[b6]at hh
  try simp only[aC,seval,-Int.reduceToNat,Za]
  refine sp ak hh (fun _ hh =>?_) (fun _ hh =>?_)
  ·obtain⟨x7,hx7,hh⟩:=ae hh
   have ax7:=bH bU hx7
   simp only[bZ]at ax7
   obtain⟨r8,hr8,hh⟩:=ae hh
   try simp only[aC,seval,-Int.reduceToNat,Za,ax7,hr8]
   refine sp ak hh (fun _ hh =>?_) (fun _ hh =>?_)
   ·cases hh
    try simp only[aC,seval,-Int.reduceToNat,Za,ax7,hr8]
    refine yW ⟨rfl,?_⟩
    try simp only[aC,seval,-Int.reduceToNat,Za,ax7,hr8]
   ·cases hh
    try simp only[aC,seval,-Int.reduceToNat,Za,ax7,hr8]
    refine jg ?_
    refine⟨?_,?_,?_,?_⟩
    all_goals first|rfl|(simp only[aC,seval,-Int.reduceToNat,Za,ax7,hr8]<;>rfl)
  ·cases hh
   try simp only[aC,seval,-Int.reduceToNat,Za]
   refine kX ?_
   exact rfl
 ·rintro x t H e hx
  rcases o5 with _|ra
  ·dsimp only at hx hh
   subst hx
   cases hh
   try simp only[aC,seval,-Int.reduceToNat]
  ·dsimp only at hx hh
   obtain⟨rfl,hE⟩:=hx
   cases hh
   try simp only[bq,bh,bF,dw,du]
   exact hE
theorem gG:bM Tryz.prog 71 cJ:=bM.of (mode := .clean) tok gE mixed Tryz.func71 (by kernel_rfl) ⟨by kernel_rfl,by kernel_rfl⟩ (fun _=>Nat.le_of_ble_eq_true (by kernel_rfl)) (fun x r h=>gV x.1 x.2 r h)
noncomputable def da:=eN (dU (iI bc) (dR (Qn 75 0 (dU (Qo (eI .i64)) (dR (Qo lj)))))) (fun x:(List aB)×(Int×aT)=>bA x.1 x.2.1 x.2.2) (fun r:Int =>.clean (.int .i64 r))
theorem eH (p0:(List aB)) (p1c0:Int) (p1c1_0:Int) (p1c1_1:(List Int)) (p1c1_2:Int) (p1c1_3:(List Int)):da none [.sl false false p0.length (ab bc p0),.clo 75 0 [.ip [.int .i64 p1c0],.ip [.int .i64 p1c1_0,.sl false false p1c1_1.length (ab (eI .i64) p1c1_1),.int .i64 p1c1_2,.sl false false p1c1_3.length (ab (eI .i64) p1c1_3)]]]=(bA p0 p1c0 (aT.mk (ay.mk p1c1_0 p1c1_1) (ay.mk p1c1_2 p1c1_3))).map fun r:Int=>(.clean (.int .i64 r),none):=aJ _ _ _ (p0,(p1c0,(aT.mk (ay.mk p1c1_0 p1c1_1) (ay.mk p1c1_2 p1c1_3))))
noncomputable def ch:Env:=(Am.ext aV 75 false gR)
theorem iz:bR Tryz.prog ch:=(bR.none.add pN false)
theorem aG:type_of% (ai @w<|ai @kI<|@ch.eq_1):=⟨@w,@kI,@ch.eq_1⟩
theorem iJ (p0:(List aB)) (p1c0:Int) (p1c1:aT) (r:Int) (hh:bA p0 p1c0 p1c1=some r):aP .clean tab ch FU Tryz.f68 none [.sl false false p0.length (ab bc p0),.clo 75 0 [.ip [.int .i64 p1c0],.ip [.int .i64 p1c1.cu.ah,.sl false false p1c1.cu.aa.length (ab (eI .i64) p1c1.cu.aa),.int .i64 p1c1.ct.ah,.sl false false p1c1.ct.aa.length (ab (eI .i64) p1c1.ct.aa)]]]=some (.clean (.int .i64 r),none):=by
 refine ax rfl Tryz.ntmps68 Tryz.results68 ?_
 unfold bA at hh
 try simp only[aG,seval,-Int.reduceToNat]
 obtain⟨o5,ho5,hh⟩:=ae hh
 refine az (fun s t H e=>match s with|s8a=>t 0=.sl false false p0.length (ab bc p0)∧t 1=.clo 75 0 [.ip [.int .i64 p1c0],.ip [.int .i64 p1c1.cu.ah,.sl false false p1c1.cu.aa.length (ab (eI .i64) p1c1.cu.aa),.int .i64 p1c1.ct.ah,.sl false false p1c1.ct.aa.length (ab (eI .i64) p1c1.ct.aa)]]∧t 7=.int .i64 (p0.length:Int)∧t 8=.int .i64 s8a) (fun o x t H e=>match o with|(.inl _)=>x=.exit 0|(.inr r)=>x=.ret∧gT .clean tab none [.tmp 4] ⟨t,H,e⟩=some (.clean (.int .i64 r),none)) ho5 ?_ ?_ ?_
 ·refine⟨?_,?_,?_,?_⟩
  all_goals first|rfl|(simp only[aG,seval,-Int.reduceToNat]<;>rfl)
 ·rintro s8a t H e Za c hh
  simp only[cd]at hh
  try simp only[aG,seval,-Int.reduceToNat,Za]
  refine sp ak hh (fun _ hh =>?_) (fun _ hh =>?_)
  ·obtain⟨x7,hx7,hh⟩:=ae hh
   have ax7:=bH bc hx7
   simp only[bZ]at ax7
   obtain⟨r8,hr8,hh⟩:=ae hh
   try simp only[aG,seval,-Int.reduceToNat,Za,ax7,hr8]
   refine sp ak hh (fun _ hh =>?_) (fun _ hh =>?_)
   ·cases hh
    try simp only[aG,seval,-Int.reduceToNat,Za,ax7,hr8]
    refine yW ⟨rfl,?_⟩
    try simp only[aG,seval,-Int.reduceToNat,Za,ax7,hr8]
   ·cases hh
    try simp only[aG,seval,-Int.reduceToNat,Za,ax7,hr8]
    refine jg ?_
    refine⟨?_,?_,?_,?_⟩
    all_goals first|rfl|(simp only[aG,seval,-Int.reduceToNat,Za,ax7,hr8]<;>rfl)
  ·cases hh
   try simp only[aG,seval,-Int.reduceToNat,Za]
   refine kX ?_
   exact rfl
 ·rintro x t H e hx
  rcases o5 with _|ra
  ·dsimp only at hx hh
   subst hx
   cases hh
   try simp only[aG,seval,-Int.reduceToNat]
  ·dsimp only at hx hh
   obtain⟨rfl,hE⟩:=hx
   cases hh
   try simp only[bq,bh,bF,dw,du]
   exact hE
theorem iA:bM Tryz.prog 68 da:=bM.of (mode := .clean) tok iz mixed Tryz.func68 (by kernel_rfl) ⟨by kernel_rfl,by kernel_rfl⟩ (fun _=>Nat.le_of_ble_eq_true (by kernel_rfl)) (fun x r h=>iJ x.1 x.2.1 x.2.2 r h)
noncomputable def cI:=eN (dU (iI bc) (dR (Qn 75 0 (dU (Qo (eI .i64)) (dR (Qo lj)))))) (fun x:(List aB)×(Int×aT)=>a6 x.1 x.2.1 x.2.2) (fun r:Bool =>.clean (.bool r))
theorem dY (p0:(List aB)) (p1c0:Int) (p1c1_0:Int) (p1c1_1:(List Int)) (p1c1_2:Int) (p1c1_3:(List Int)):cI none [.sl false false p0.length (ab bc p0),.clo 75 0 [.ip [.int .i64 p1c0],.ip [.int .i64 p1c1_0,.sl false false p1c1_1.length (ab (eI .i64) p1c1_1),.int .i64 p1c1_2,.sl false false p1c1_3.length (ab (eI .i64) p1c1_3)]]]=(a6 p0 p1c0 (aT.mk (ay.mk p1c1_0 p1c1_1) (ay.mk p1c1_2 p1c1_3))).map fun r:Bool=>(.clean (.bool r),none):=aJ _ _ _ (p0,(p1c0,(aT.mk (ay.mk p1c1_0 p1c1_1) (ay.mk p1c1_2 p1c1_3))))
noncomputable def b8:Env:=(Am.ext aV 68 false da)
theorem gD:bR Tryz.prog b8:=(bR.none.add iA false)
theorem gZ:type_of% (ai @w<|ai @eH<|@b8.eq_1):=⟨@w,@eH,@b8.eq_1⟩
theorem gU (p0:(List aB)) (p1c0:Int) (p1c1:aT) (r:Bool) (hh:a6 p0 p1c0 p1c1=some r):aP .clean tab b8 FU Tryz.f40 none [.sl false false p0.length (ab bc p0),.clo 75 0 [.ip [.int .i64 p1c0],.ip [.int .i64 p1c1.cu.ah,.sl false false p1c1.cu.aa.length (ab (eI .i64) p1c1.cu.aa),.int .i64 p1c1.ct.ah,.sl false false p1c1.ct.aa.length (ab (eI .i64) p1c1.ct.aa)]]]=some (.clean (.bool r),none):=by
 refine ax rfl Tryz.ntmps40 Tryz.results40 ?_
 unfold a6 at hh
 obtain⟨r1,hr1,hh⟩:=ae hh
 cases hh
 try simp only[gZ,seval,-Int.reduceToNat,hr1]
theorem gF:bM Tryz.prog 40 cI:=bM.of (mode := .clean) tok gD mixed Tryz.func40 (by kernel_rfl) ⟨by kernel_rfl,by kernel_rfl⟩ (fun _=>Nat.le_of_ble_eq_true (by kernel_rfl)) (fun x r h=>gU x.1 x.2.1 x.2.2 r h)
noncomputable def iK:=eN (dU (dm zZ) (dU (aI .i64) (dU (iI bU) (dR (iI bc))))) (fun x:jN×Int×(List aL)×(List aB)=>dL x.1 x.2.1 x.2.2.1 x.2.2.2) (fun r:Int =>.clean (.int .i64 r))
theorem l9 (p0_0:(List aj)) (p0_1:Int) (p0_2:Int) (p0_3:Int) (p1:Int) (p2:(List aL)) (p3:(List aB)):iK none [.agg [.sl false false p0_0.length (ab al p0_0),.int .i64 p0_1,.int .i64 p0_2,.int .i64 p0_3],.int .i64 p1,.sl false false p2.length (ab bU p2),.sl false false p3.length (ab bc p3)]=(dL (jN.mk (aw.mk p0_0) p0_1 p0_2 p0_3) p1 p2 p3).map fun r:Int=>(.clean (.int .i64 r),none):=aJ _ _ _ ((jN.mk (aw.mk p0_0) p0_1 p0_2 p0_3),p1,p2,p3)
noncomputable def fQ:Env:=(Am.ext (Am.ext (Am.ext (Am.ext aV 40 false cI) 71 false cJ) 73 false ji) 74 false vf)
theorem rY:bR Tryz.prog fQ:=((((bR.none.add gF false).add gG false).add s8 false).add J1 false)
theorem cG:type_of% (ai @w<|ai @dY<|ai @dZ<|ai @mF<|ai @Cg<|@fQ.eq_1):=⟨@w,@dY,@dZ,@mF,@Cg,@fQ.eq_1⟩
theorem s5 (p0:jN) (p1:Int) (p2:(List aL)) (p3:(List aB)) (r:Int) (hh:dL p0 p1 p2 p3=some r):aP .clean tab fQ FU Tryz.f43 none [.agg [.sl false false p0.TM.ag.length (ab al p0.TM.ag),.int .i64 p0.xL,.int .i64 p0.tO,.int .i64 p0.tN],.int .i64 p1,.sl false false p2.length (ab bU p2),.sl false false p3.length (ab bc p3)]=some (.clean (.int .i64 r),none):=by
 refine ax rfl Tryz.ntmps43 Tryz.results43 ?_
 unfold dL at hh
 obtain⟨r1,hr1,hh⟩:=ae hh
 try simp only[cG,seval,-Int.reduceToNat,hr1]
 refine sp ak hh (fun _ hh =>?_) (fun _ hh =>?_)
 ·cases hh
  try simp only[cG,seval,-Int.reduceToNat,hr1]
 ·obtain⟨x3,hx3,hh⟩:=ae hh
  have ax3:=bH bU hx3
  simp only[bZ]at ax3
  obtain⟨r4,hr4,hh⟩:=ae hh
  try simp only[cG,seval,-Int.reduceToNat,hr1,ax3,hr4]
  refine cj (by kernel_rfl) ?_
  try simp only[cG,seval,-Int.reduceToNat,hr1,ax3,hr4]
  refine sp ak hh (fun _ hh =>?_) (fun _ hh =>?_)
  ·cases hh
   try simp only[cG,seval,-Int.reduceToNat,hr1,ax3,hr4]
  ·have ax3:=bH bU hx3
   simp only[bZ]at ax3
   obtain⟨r6,hr6,hh⟩:=ae hh
   obtain⟨r7,hr7,hh⟩:=ae hh
   try simp only[cG,seval,-Int.reduceToNat,hr1,ax3,hr4,ax3,hr6,hr7]
   refine sp ak hh (fun _ hh =>?_) (fun _ hh =>?_)
   ·cases hh
    try simp only[cG,seval,-Int.reduceToNat,hr1,ax3,hr4,ax3,hr6,hr7]
   ·cases hh
    try simp only[cG,seval,-Int.reduceToNat,hr1,ax3,hr4,ax3,hr6,hr7]
theorem sa:bM Tryz.prog 43 iK:=bM.of (mode := .clean) tok rY mixed Tryz.func43 (by kernel_rfl) ⟨by kernel_rfl,by kernel_rfl⟩ (fun _=>Nat.le_of_ble_eq_true (by kernel_rfl)) (fun x r h=>s5 x.1 x.2.1 x.2.2.1 x.2.2.2 r h)
noncomputable def dT:=eN (dU (iI bc) (dR (Ye 41))) (fun x:(List aB)×Unit=>ca x.1) (fun r:Int =>.clean (.int .i64 r))
theorem fS (p0:(List aB)):dT none [.sl false false p0.length (ab bc p0),.fn 41]=(ca p0).map fun r:Int=>(.clean (.int .i64 r),none):=aJ _ _ _ (p0,())
noncomputable def cW:Env:=(Am.ext aV 41 false mq)
theorem ke:bR Tryz.prog cW:=(bR.none.add xZ false)
theorem aR:type_of% (ai @w<|ai @rM<|@cW.eq_1):=⟨@w,@rM,@cW.eq_1⟩
theorem kC (p0:(List aB)) (r:Int) (hh:ca p0=some r):aP .clean tab cW FU Tryz.f68 none [.sl false false p0.length (ab bc p0),.fn 41]=some (.clean (.int .i64 r),none):=by
 refine ax rfl Tryz.ntmps68 Tryz.results68 ?_
 unfold ca at hh
 try simp only[aR,seval,-Int.reduceToNat]
 obtain⟨o5,ho5,hh⟩:=ae hh
 refine az (fun s t H e=>match s with|s8a=>t 0=.sl false false p0.length (ab bc p0)∧t 1=.fn 41∧t 7=.int .i64 (p0.length:Int)∧t 8=.int .i64 s8a) (fun o x t H e=>match o with|(.inl _)=>x=.exit 0|(.inr r)=>x=.ret∧gT .clean tab none [.tmp 4] ⟨t,H,e⟩=some (.clean (.int .i64 r),none)) ho5 ?_ ?_ ?_
 ·refine⟨?_,?_,?_,?_⟩
  all_goals first|rfl|(simp only[aR,seval,-Int.reduceToNat]<;>rfl)
 ·rintro s8a t H e Za c hh
  simp only[cM]at hh
  try simp only[aR,seval,-Int.reduceToNat,Za]
  refine sp ak hh (fun _ hh =>?_) (fun _ hh =>?_)
  ·obtain⟨x7,hx7,hh⟩:=ae hh
   have ax7:=bH bc hx7
   simp only[bZ]at ax7
   obtain⟨r8,hr8,hh⟩:=ae hh
   try simp only[aR,seval,-Int.reduceToNat,Za,ax7,hr8]
   refine sp ak hh (fun _ hh =>?_) (fun _ hh =>?_)
   ·cases hh
    try simp only[aR,seval,-Int.reduceToNat,Za,ax7,hr8]
    refine yW ⟨rfl,?_⟩
    try simp only[aR,seval,-Int.reduceToNat,Za,ax7,hr8]
   ·cases hh
    try simp only[aR,seval,-Int.reduceToNat,Za,ax7,hr8]
    refine jg ?_
    refine⟨?_,?_,?_,?_⟩
    all_goals first|rfl|(simp only[aR,seval,-Int.reduceToNat,Za,ax7,hr8]<;>rfl)
  ·cases hh
   try simp only[aR,seval,-Int.reduceToNat,Za]
   refine kX ?_
   exact rfl
 ·rintro x t H e hx
  rcases o5 with _|ra
  ·dsimp only at hx hh
   subst hx
   cases hh
   try simp only[aR,seval,-Int.reduceToNat]
  ·dsimp only at hx hh
   obtain⟨rfl,hE⟩:=hx
   cases hh
   try simp only[bq,bh,bF,dw,du]
   exact hE
theorem kg:bM Tryz.prog 68 dT:=bM.of (mode := .clean) tok ke mixed Tryz.func68 (by kernel_rfl) ⟨by kernel_rfl,by kernel_rfl⟩ (fun _=>Nat.le_of_ble_eq_true (by kernel_rfl)) (fun x r h=>kC x.1 r h)
noncomputable def dz:=eN (dU (iI bc) (dR (Ye 41))) (fun x:(List aB)×Unit=>aD x.1) (fun r:Bool =>.clean (.bool r))
theorem fj (p0:(List aB)):dz none [.sl false false p0.length (ab bc p0),.fn 41]=(aD p0).map fun r:Bool=>(.clean (.bool r),none):=aJ _ _ _ (p0,())
noncomputable def cA:Env:=(Am.ext aV 68 false dT)
theorem jk:bR Tryz.prog cA:=(bR.none.add kg false)
theorem jB:type_of% (ai @w<|ai @fS<|@cA.eq_1):=⟨@w,@fS,@cA.eq_1⟩
theorem jr (p0:(List aB)) (r:Bool) (hh:aD p0=some r):aP .clean tab cA FU Tryz.f40 none [.sl false false p0.length (ab bc p0),.fn 41]=some (.clean (.bool r),none):=by
 refine ax rfl Tryz.ntmps40 Tryz.results40 ?_
 unfold aD at hh
 obtain⟨r1,hr1,hh⟩:=ae hh
 cases hh
 try simp only[jB,seval,-Int.reduceToNat,hr1]
theorem jl:bM Tryz.prog 40 dz:=bM.of (mode := .clean) tok jk mixed Tryz.func40 (by kernel_rfl) ⟨by kernel_rfl,by kernel_rfl⟩ (fun _=>Nat.le_of_ble_eq_true (by kernel_rfl)) (fun x r h=>jr x.1 r h)
noncomputable def jm:=eN (dU (dm dQ) (dU (aI .i64) (dU (aI .i64) (dU (aI .i64) (dU (iI (eI .i64)) (dU (iI bU) (dR (iI bc)))))))) (fun x:aw×Int×Int×Int×(List Int)×(List aL)×(List aB)=>ep x.1 x.2.1 x.2.2.1 x.2.2.2.1 x.2.2.2.2.1 x.2.2.2.2.2.1 x.2.2.2.2.2.2) (fun r:(List bg)×Int =>.clean (.tup [.sl false false r.1.length (ab bJ r.1),.int .i64 r.2]))
theorem fh (p0_0:(List aj)) (p1:Int) (p2:Int) (p3:Int) (p4:(List Int)) (p5:(List aL)) (p6:(List aB)):jm none [.agg [.sl false false p0_0.length (ab al p0_0)],.int .i64 p1,.int .i64 p2,.int .i64 p3,.sl false false p4.length (ab (eI .i64) p4),.sl false false p5.length (ab bU p5),.sl false false p6.length (ab bc p6)]=(ep (aw.mk p0_0) p1 p2 p3 p4 p5 p6).map fun r:(List bg)×Int=>(.clean (.tup [.sl false false r.1.length (ab bJ r.1),.int .i64 r.2]),none):=aJ _ _ _ ((aw.mk p0_0),p1,p2,p3,p4,p5,p6)
noncomputable def lK:Env:=(Am.ext (Am.ext (Am.ext (Am.ext aV 39 false fc) 40 false dz) 42 false lC) 43 false iK)
theorem Bz:bR Tryz.prog lK:=((((bR.none.add gx false).add jl false).add s9 false).add sa false)
theorem a8:type_of% (ai @w<|ai @cO<|ai @fj<|ai @lS<|ai @l9<|@lK.eq_1):=⟨@w,@cO,@fj,@lS,@l9,@lK.eq_1⟩
theorem Dh (p0:aw) (p1:Int) (p2:Int) (p3:Int) (p4:(List Int)) (p5:(List aL)) (p6:(List aB)) (r:(List bg)×Int) (hh:ep p0 p1 p2 p3 p4 p5 p6=some r):aP .clean tab lK FU Tryz.f13 none [.agg [.sl false false p0.ag.length (ab al p0.ag)],.int .i64 p1,.int .i64 p2,.int .i64 p3,.sl false false p4.length (ab (eI .i64) p4),.sl false false p5.length (ab bU p5),.sl false false p6.length (ab bc p6)]=some (.clean (.tup [.sl false false r.1.length (ab bJ r.1),.int .i64 r.2]),none):=by
 refine ax rfl Tryz.ntmps13 Tryz.results13 ?_
 unfold ep at hh
 obtain⟨r1,hr1,hh⟩:=ae hh
 try simp only[a8,seval,-Int.reduceToNat,hr1]
 obtain⟨o2,ho2,hh⟩:=ae hh
 refine bW 0 (fun s t H e=>match s with|s21j1=>∃v7j1:Nat,t 1=.int .i64 p1∧t 2=.int .i64 p2∧t 3=.int .i64 p3∧t 4=.sl false false p4.length (ab (eI .i64) p4)∧t 5=.sl false false p5.length (ab bU p5)∧t 6=.sl false false p6.length (ab bc p6)∧t 7=.ptr 7 v7j1 0∧t 21=.bool s21j1∧H 7=some ⟨v7j1,24,[.sl false false p0.ag.length (ab al p0.ag)],false,false,false⟩) (fun s=>s=o2) ?_ ?_
 ·rintro s21j1 t H e ⟨v7j1,Zj1⟩ rfl
  try dsimp only at hh
  try simp only[a8,seval,-Int.reduceToNat,hr1,Zj1]
  refine sp ak hh (fun _ hh =>?_) (fun _ hh =>?_)
  ·cases hh
   try simp only[a8,seval,-Int.reduceToNat,hr1,Zj1]
  ·obtain⟨r4,hr4,hh⟩:=ae hh
   try simp only[a8,seval,-Int.reduceToNat,hr1,Zj1,hr4]
   refine sp ak hh (fun _ hh =>?_) (fun _ hh =>?_)
   ·cases hh
    try simp only[a8,seval,-Int.reduceToNat,hr1,Zj1,hr4]
   ·obtain⟨r6,hr6,hh⟩:=ae hh
    try simp only[a8,seval,-Int.reduceToNat,hr1,Zj1,hr4,hr6]
    refine sp ak hh (fun _ hh =>?_) (fun _ hh =>?_)
    ·cases hh
     try simp only[a8,seval,-Int.reduceToNat,hr1,Zj1,hr4,hr6]
    ·try simp only[a8,seval,-Int.reduceToNat,hr1,Zj1,hr4,hr6]
     obtain⟨o14,ho14,hh⟩:=ae hh
     refine az (fun s t H e=>match s with|(s49b,l17b)=>∃v16b:Nat,∃v17b:Nat,t 5=.sl false false p5.length (ab bU p5)∧t 6=.sl false false p6.length (ab bc p6)∧t 16=.ptr 16 v16b 0∧t 17=.buf 17 v17b 2 0 (l17b).length∧t 47=.sl false false p4.length (ab (eI .i64) p4)∧t 48=.int .i64 (p4.length:Int)∧t 49=.int .i64 s49b∧H 16=some ⟨v16b,92,[.sl false false p0.ag.length (ab al p0.ag),.int .i64 p1,.int .i64 p2,.int .i64 p3],false,false,false⟩∧H 17=some ⟨v17b,74,ab bJ l17b,false,true,false⟩) (fun o x t H e=>match o with|l17bx=>x=.exit 1∧∃v17bx:Nat,t 17=.buf 17 v17bx 2 0 (l17bx).length∧H 17=some ⟨v17bx,74,ab bJ l17bx,false,true,false⟩) ho14 ?_ ?_ ?_
     ·refine⟨e+1+1,e+1+1+1,?_,?_,?_,?_,?_,?_,?_,?_,?_⟩
      all_goals first|rfl|(simp only[a8,seval,-Int.reduceToNat,hr1,Zj1,hr4,hr6]<;>rfl)
     ·rintro⟨s49b,l17b⟩ t H e ⟨v16b,v17b,Zb⟩ c hh
      simp only[dV]at hh
      try simp only[a8,seval,-Int.reduceToNat,hr1,hr4,hr6,Zb]
      refine sp ak hh (fun _ hh =>?_) (fun _ hh =>?_)
      ·obtain⟨x16,hx16,hh⟩:=ae hh
       have ax16:=bH (eI .i64) hx16
       simp only[bZ]at ax16
       obtain⟨r17,hr17,hh⟩:=ae hh
       try simp only[a8,seval,-Int.reduceToNat,hr1,hr4,hr6,Zb,ax16,hr17]
       refine sp ak hh (fun _ hh =>?_) (fun _ hh =>?_)
       ·obtain⟨x19,hx19,hh⟩:=ae hh
        obtain⟨q20a,q20b,q20c,q20d⟩:=ey bJ hx19
        simp only[bZ]at q20b
        cases hh
        try simp only[a8,seval,-Int.reduceToNat,hr1,hr4,hr6,Zb,ax16,hr17,q20a,q20b,q20c,q20d]
        refine jg ?_
        refine⟨v16b,e+1+1+1+1,?_,?_,?_,?_,?_,?_,?_,?_,?_⟩
        all_goals first|rfl|(simp only[a8,seval,-Int.reduceToNat,hr1,hr4,hr6,Zb,ax16,hr17,q20a,q20b,q20c,q20d]<;>rfl)
       ·cases hh
        try simp only[a8,seval,-Int.reduceToNat,hr1,hr4,hr6,Zb,ax16,hr17]
        refine jg ?_
        refine⟨v16b,v17b,?_,?_,?_,?_,?_,?_,?_,?_,?_⟩
        all_goals first|rfl|(simp only[a8,seval,-Int.reduceToNat,hr1,hr4,hr6,Zb,ax16,hr17]<;>rfl)
      ·cases hh
       try simp only[a8,seval,-Int.reduceToNat,hr1,hr4,hr6,Zb]
       refine kX ?_
       refine⟨rfl,⟨v17b,?_,?_⟩⟩
       all_goals first|rfl|(simp only[a8,seval,-Int.reduceToNat,hr1,hr4,hr6,Zb]<;>rfl)
     ·rintro x t H e hx
      obtain⟨l17bx,rfl⟩:∃z,z=o14:=⟨_,rfl⟩
      dsimp only at hx hh
      obtain⟨rfl,⟨v17bx,Zbx⟩⟩:=hx
      cases hh
      try simp only[a8,seval,-Int.reduceToNat,hr1,hr4,hr6,Zbx]
 ·clear hh
  have hh:=ho2
  try simp only[a8,seval,-Int.reduceToNat,hr1]
  refine sp aX hh (fun _ hh =>?_) (fun _ hh =>?_)
  ·cases hh
   try simp only[a8,seval,-Int.reduceToNat,hr1]
   rw[an]
   refine⟨_,rfl,?_⟩
   refine⟨0,?_,?_,?_,?_,?_,?_,?_,?_,?_⟩
   all_goals first|rfl|(simp only[a8,seval,-Int.reduceToNat,hr1]<;>rfl)
  ·try simp only[a8,seval,-Int.reduceToNat,hr1]
   refine sp aX hh (fun _ hh =>?_) (fun _ hh =>?_)
   ·cases hh
    try simp only[a8,seval,-Int.reduceToNat,hr1]
    rw[an]
    refine⟨_,rfl,?_⟩
    refine⟨0,?_,?_,?_,?_,?_,?_,?_,?_,?_⟩
    all_goals first|rfl|(simp only[a8,seval,-Int.reduceToNat,hr1]<;>rfl)
   ·cases hh
    try simp only[a8,seval,-Int.reduceToNat,hr1]
    rw[an]
    refine⟨_,rfl,?_⟩
    refine⟨0,?_,?_,?_,?_,?_,?_,?_,?_,?_⟩
    all_goals first|rfl|(simp only[a8,seval,-Int.reduceToNat,hr1]<;>rfl)
theorem nW:bM Tryz.prog 13 jm:=bM.of (mode := .clean) tok Bz mixed Tryz.func13 (by kernel_rfl) ⟨by kernel_rfl,by kernel_rfl⟩ (fun _=>Nat.le_of_ble_eq_true (by kernel_rfl)) (fun x r h=>Dh x.1 x.2.1 x.2.2.1 x.2.2.2.1 x.2.2.2.2.1 x.2.2.2.2.2.1 x.2.2.2.2.2.2 r h)
noncomputable def pX:=eN (dU (iI bJ) (dR (iI bJ))) (fun x:(List bg)×(List bg)=>mi x.1 x.2) (fun r:Bool =>.clean (.bool r))
theorem qU (p0:(List bg)) (p1:(List bg)):pX none [.sl false false p0.length (ab bJ p0),.sl false false p1.length (ab bJ p1)]=(mi p0 p1).map fun r:Bool=>(.clean (.bool r),none):=aJ _ _ _ (p0,p1)
theorem LV (p0:(List bg)) (p1:(List bg)) (r:Bool) (hh:mi p0 p1=some r):aP .clean tab aV FU Tryz.f17 none [.sl false false p0.length (ab bJ p0),.sl false false p1.length (ab bJ p1)]=some (.clean (.bool r),none):=by
 refine ax rfl Tryz.ntmps17 Tryz.results17 ?_
 unfold mi at hh
 try simp only[w,seval,-Int.reduceToNat]
 refine sp ak hh (fun _ hh =>?_) (fun _ hh =>?_)
 ·cases hh
  try simp only[w,seval,-Int.reduceToNat]
 ·try simp only[w,seval,-Int.reduceToNat]
  obtain⟨o6,ho6,hh⟩:=ae hh
  refine az (fun s t H e=>match s with|s5a=>t 0=.sl false false p0.length (ab bJ p0)∧t 1=.sl false false p1.length (ab bJ p1)∧t 5=.int .i64 s5a) (fun o x t H e=>match o with|(.inl _)=>x=.exit 0|(.inr r)=>x=.ret∧gT .clean tab none [.tmp 4] ⟨t,H,e⟩=some (.clean (.bool r),none)) ho6 ?_ ?_ ?_
  ·refine⟨?_,?_,?_⟩
   all_goals first|rfl|(simp only[w,seval,-Int.reduceToNat]<;>rfl)
  ·rintro s5a t H e Za c hh
   simp only[mj]at hh
   try simp only[w,seval,-Int.reduceToNat,Za]
   refine sp ak hh (fun _ hh =>?_) (fun _ hh =>?_)
   ·obtain⟨x8,hx8,hh⟩:=ae hh
    have ax8:=bH bJ hx8
    simp only[bZ]at ax8
    obtain⟨x9,hx9,hh⟩:=ae hh
    have ax9:=bH bJ hx9
    simp only[bZ]at ax9
    try simp only[w,seval,-Int.reduceToNat,Za,ax8,ax9]
    refine cj (by kernel_rfl) ?_
    try simp only[w,seval,-Int.reduceToNat,Za,ax8,ax9]
    refine sp ak hh (fun _ hh =>?_) (fun _ hh =>?_)
    ·cases hh
     try simp only[w,seval,-Int.reduceToNat,Za,ax8,ax9]
     refine yW ⟨rfl,?_⟩
     try simp only[w,seval,-Int.reduceToNat,Za,ax8,ax9]
    ·cases hh
     try simp only[w,seval,-Int.reduceToNat,Za,ax8,ax9]
     refine jg ?_
     refine⟨?_,?_,?_⟩
     all_goals first|rfl|(simp only[w,seval,-Int.reduceToNat,Za,ax8,ax9]<;>rfl)
   ·cases hh
    try simp only[w,seval,-Int.reduceToNat,Za]
    refine kX ?_
    exact rfl
  ·rintro x t H e hx
   rcases o6 with _|ra
   ·dsimp only at hx hh
    subst hx
    cases hh
    try simp only[w,seval,-Int.reduceToNat]
   ·dsimp only at hx hh
    obtain⟨rfl,hE⟩:=hx
    cases hh
    try simp only[bq,bh,bF,dw,du]
    exact hE
theorem yZ:bM Tryz.prog 17 pX:=bM.of (mode := .clean) tok bR.none mixed Tryz.func17 (by kernel_rfl) ⟨by kernel_rfl,by kernel_rfl⟩ (fun _=>Nat.le_of_ble_eq_true (by kernel_rfl)) (fun x r h=>LV x.1 x.2 r h)
noncomputable def vn:=eN (dU (dm dQ) (dU (iI (eI .i64)) (dU (aI .i64) (dU (iI bc) (dR (iI bJ)))))) (fun x:aw×(List Int)×Int×(List aB)×(List bg)=>jq x.1 x.2.1 x.2.2.1 x.2.2.2.1 x.2.2.2.2) (fun r:Bool =>.clean (.bool r))
theorem lr (p0_0:(List aj)) (p1:(List Int)) (p2:Int) (p3:(List aB)) (p4:(List bg)):vn none [.agg [.sl false false p0_0.length (ab al p0_0)],.sl false false p1.length (ab (eI .i64) p1),.int .i64 p2,.sl false false p3.length (ab bc p3),.sl false false p4.length (ab bJ p4)]=(jq (aw.mk p0_0) p1 p2 p3 p4).map fun r:Bool=>(.clean (.bool r),none):=aJ _ _ _ ((aw.mk p0_0),p1,p2,p3,p4)
noncomputable def qE:Env:=(Am.ext (Am.ext aV 13 false jm) 17 false pX)
theorem IN:bR Tryz.prog qE:=((bR.none.add nW false).add yZ false)
theorem vN:type_of% (ai @w<|ai @fh<|ai @qU<|@qE.eq_1):=⟨@w,@fh,@qU,@qE.eq_1⟩
theorem LO (p0:aw) (p1:(List Int)) (p2:Int) (p3:(List aB)) (p4:(List bg)) (r:Bool) (hh:jq p0 p1 p2 p3 p4=some r):aP .clean tab qE FU Tryz.f38 none [.agg [.sl false false p0.ag.length (ab al p0.ag)],.sl false false p1.length (ab (eI .i64) p1),.int .i64 p2,.sl false false p3.length (ab bc p3),.sl false false p4.length (ab bJ p4)]=some (.clean (.bool r),none):=by
 refine ax rfl Tryz.ntmps38 Tryz.results38 ?_
 unfold jq at hh
 have i1:=fh p0.ag 4 60 24 p1 ([(aL.mk 1 ([4,3,1]) (ByteArray.mk #[98]) p2 8)]) p3
 simp only[aN,bZ,List.length_cons,List.length_nil,Nat.zero_add,Nat.reduceAdd,List.length_set]at i1
 obtain⟨r2,hr2,hh⟩:=ae hh
 try simp only[vN,seval,-Int.reduceToNat,i1,hr2]
 refine sp bB hh (fun _ hh =>?_) (fun _ hh =>?_)
 ·obtain⟨r4,hr4,hh⟩:=ae hh
  cases hh
  try simp only[vN,seval,-Int.reduceToNat,i1,hr2,hr4]
 ·cases hh
  try simp only[vN,seval,-Int.reduceToNat,i1,hr2]
theorem J4:bM Tryz.prog 38 vn:=bM.of (mode := .clean) tok IN mixed Tryz.func38 (by kernel_rfl) ⟨by kernel_rfl,by kernel_rfl⟩ (fun _=>Nat.le_of_ble_eq_true (by kernel_rfl)) (fun x r h=>LO x.1 x.2.1 x.2.2.1 x.2.2.2.1 x.2.2.2.2 r h)
noncomputable def so:=eN (dR (iI (eI .i64))) (fun x:(List Int)=>uq x) (fun r:ByteArray =>.clean (.str r))
theorem zh (p0:(List Int)):so none [.sl false false p0.length (ab (eI .i64) p0)]=(uq p0).map fun r:ByteArray=>(.clean (.str r),none):=aJ _ _ _ p0
theorem G4:bM Tryz.prog 53 so:=TV
noncomputable def oq:=eN (dR (iI (eI .i64))) (fun x:(List Int)=>kb x) (fun r:ByteArray =>.clean (.str r))
theorem ma (p0:(List Int)):oq none [.sl false false p0.length (ab (eI .i64) p0)]=(kb p0).map fun r:ByteArray=>(.clean (.str r),none):=aJ _ _ _ (p0)
noncomputable def oF:Env:=(Am.ext aV 53 false so)
theorem Gs:bR Tryz.prog oF:=(bR.none.add G4 false)
theorem KS:type_of% (ai @w<|ai @zh<|@oF.eq_1):=⟨@w,@zh,@oF.eq_1⟩
theorem JI (p0:(List Int)) (r:ByteArray) (hh:kb p0=some r):aP .clean tab oF FU Tryz.f21 none [.sl false false p0.length (ab (eI .i64) p0)]=some (.clean (.str r),none):=by
 refine ax rfl Tryz.ntmps21 Tryz.results21 ?_
 unfold kb at hh
 obtain⟨r1,hr1,hh⟩:=ae hh
 cases hh
 try simp only[KS,seval,-Int.reduceToNat,hr1]
theorem wS:bM Tryz.prog 21 oq:=bM.of (mode := .clean) tok Gs mixed Tryz.func21 (by kernel_rfl) ⟨by kernel_rfl,by kernel_rfl⟩ (fun _=>Nat.le_of_ble_eq_true (by kernel_rfl)) (fun x r h=>JI x r h)
theorem Dp (p0 r:(List aj)) (hh:j9 p0=some r):aP .tight tab aV FU Tryz.f92 none [.sl false false p0.length (ab al p0)]=some (.clean (.sl false true r.length (ab al r)),none):=by
 unfold j9 at hh
 split at hh
 ·cases hh
  refine ax rfl Tryz.ntmps92 Tryz.results92 ?_
  simp only[w,seval,-Int.reduceToNat,Int.toNat_natCast,Int.natCast_nonneg]
 ·cases hh
noncomputable def o0:=eN (dR (iI al)) (fun x:(List aj)=>j9 x) (fun r:(List aj) =>.clean (.sl false true r.length (ab al r)))
theorem uY (p0:(List aj)):o0 none [.sl false false p0.length (ab al p0)]=(j9 p0).map fun r:(List aj)=>(.clean (.sl false true r.length (ab al r)),none):=aJ _ _ _ p0
theorem B9:bM Tryz.prog 92 o0:=bM.of (mode := .tight) tok bR.none mixed Tryz.func92 (by kernel_rfl) ⟨by kernel_rfl,by kernel_rfl⟩ (fun _=>Nat.le_of_ble_eq_true (by kernel_rfl)) (fun x r h=>Dp x r h)
noncomputable def sn:=eN (dU (dm dQ) (dR (dm al))) (fun x:aw×aj=>lA x.1 x.2) (fun r:aw×Int×Int =>.clean (.tup [.agg [.sl false false r.1.ag.length (ab al r.1.ag)],.int .i64 r.2.1,.int .i64 r.2.2]))
theorem zg (p0_0:(List aj)) (p1_0:ByteArray) (p1_1:Int) (p1_2:Int) (p1_3:Int) (p1_4:Int):sn none [.agg [.sl false false p0_0.length (ab al p0_0)],.agg [.str p1_0,.int .i64 p1_1,.int .i64 p1_2,.int .i64 p1_3,.int .i64 p1_4]]=(lA (aw.mk p0_0) (aj.mk p1_0 p1_1 p1_2 p1_3 p1_4)).map fun r:aw×Int×Int=>(.clean (.tup [.agg [.sl false false r.1.ag.length (ab al r.1.ag)],.int .i64 r.2.1,.int .i64 r.2.2]),none):=aJ _ _ _ ((aw.mk p0_0),(aj.mk p1_0 p1_1 p1_2 p1_3 p1_4))
noncomputable def oH:Env:=(Am.ext (Am.ext aV 63 false kn) 92 false o0)
theorem Gu:bR Tryz.prog oH:=((bR.none.add rL false).add B9 false)
theorem zA:type_of% (ai @w<|ai @kL<|ai @uY<|@oH.eq_1):=⟨@w,@kL,@uY,@oH.eq_1⟩
theorem JL (p0:aw) (p1:aj) (r:aw×Int×Int) (hh:lA p0 p1=some r):aP .clean tab oH FU Tryz.f52 none [.agg [.sl false false p0.ag.length (ab al p0.ag)],.agg [.str p1.cD,.int .i64 p1.aE,.int .i64 p1.aH,.int .i64 p1.bk,.int .i64 p1.bd]]=some (.clean (.tup [.agg [.sl false false r.1.ag.length (ab al r.1.ag)],.int .i64 r.2.1,.int .i64 r.2.2]),none):=by
 refine ax rfl Tryz.ntmps52 Tryz.results52 ?_
 unfold lA at hh
 obtain⟨r1,hr1,hh⟩:=ae hh
 obtain⟨r2,hr2,hh⟩:=ae hh
 obtain⟨x3,hx3,hh⟩:=ae hh
 obtain⟨q4a,q4b,q4c,q4d⟩:=ey al hx3
 simp only[bZ]at q4b
 try simp only[zA,seval,-Int.reduceToNat,hr1,hr2,q4a,q4b,q4c,q4d]
 refine cj (by kernel_rfl) ?_
 cases hh
 try simp only[zA,seval,-Int.reduceToNat,hr1,hr2,q4a,q4b,q4c,q4d]
theorem G3:bM Tryz.prog 52 sn:=bM.of (mode := .clean) tok Gu mixed Tryz.func52 (by kernel_rfl) ⟨by kernel_rfl,by kernel_rfl⟩ (fun _=>Nat.le_of_ble_eq_true (by kernel_rfl)) (fun x r h=>JL x.1 x.2 r h)
noncomputable def qf:=eN (dU (dm dQ) (dU Ts (dU (aI .i64) (dR (aI .i64))))) (fun x:aw×ByteArray×Int×Int=>jU x.1 x.2.1 x.2.2.1 x.2.2.2) (fun r:aw×Int×Int =>.clean (.tup [.agg [.sl false false r.1.ag.length (ab al r.1.ag)],.int .i64 r.2.1,.int .i64 r.2.2]))
theorem w6 (p0_0:(List aj)) (p1:ByteArray) (p2:Int) (p3:Int):qf none [.agg [.sl false false p0_0.length (ab al p0_0)],.str p1,.int .i64 p2,.int .i64 p3]=(jU (aw.mk p0_0) p1 p2 p3).map fun r:aw×Int×Int=>(.clean (.tup [.agg [.sl false false r.1.ag.length (ab al r.1.ag)],.int .i64 r.2.1,.int .i64 r.2.2]),none):=aJ _ _ _ ((aw.mk p0_0),p1,p2,p3)
noncomputable def mW:Env:=(Am.ext (Am.ext (Am.ext aV 39 false fc) 51 false mI) 52 false sn)
theorem Db:bR Tryz.prog mW:=(((bR.none.add gx false).add uU false).add G3 false)
theorem eg:type_of% (ai @w<|ai @cO<|ai @nk<|ai @zg<|@mW.eq_1):=⟨@w,@cO,@nk,@zg,@mW.eq_1⟩
theorem GK (p0:aw) (p1:ByteArray) (p2:Int) (p3:Int) (r:aw×Int×Int) (hh:jU p0 p1 p2 p3=some r):aP .clean tab mW FU Tryz.f20 none [.agg [.sl false false p0.ag.length (ab al p0.ag)],.str p1,.int .i64 p2,.int .i64 p3]=some (.clean (.tup [.agg [.sl false false r.1.ag.length (ab al r.1.ag)],.int .i64 r.2.1,.int .i64 r.2.2]),none):=by
 refine ax rfl Tryz.ntmps20 Tryz.results20 ?_
 unfold jU at hh
 obtain⟨r1,hr1,hh⟩:=ae hh
 try simp only[eg,seval,-Int.reduceToNat,hr1]
 obtain⟨o2,ho2,hh⟩:=ae hh
 refine bW 0 (fun s t H e=>match s with|s16j1=>∃v4j1:Nat,∃v8j1:Nat,∃v11j1:Nat,t 4=.ptr 4 v4j1 0∧t 8=.ptr 8 v8j1 0∧t 11=.ptr 11 v11j1 0∧t 16=.bool s16j1∧H 4=some ⟨v4j1,24,[.sl false false p0.ag.length (ab al p0.ag)],false,false,false⟩∧H 8=some ⟨v8j1,24,[.sl true true 0 []],false,false,false⟩∧H 11=some ⟨v11j1,87,[.str p1,.int .i64 p2,.int .i64 p3,.int .i64 (-1),.int .i64 (-1)],false,false,false⟩) (fun s=>s=o2) ?_ ?_
 ·rintro s16j1 t H e ⟨v4j1,v8j1,v11j1,Zj1⟩ rfl
  try dsimp only at hh
  try simp only[eg,seval,-Int.reduceToNat,hr1,Zj1]
  refine sp ak hh (fun _ hh =>?_) (fun _ hh =>?_)
  ·cases hh
   try simp only[eg,seval,-Int.reduceToNat,hr1,Zj1]
  ·try simp only[eg,seval,-Int.reduceToNat,hr1,Zj1]
   refine sp ak hh (fun _ hh =>?_) (fun _ hh =>?_)
   ·cases hh
    try simp only[eg,seval,-Int.reduceToNat,hr1,Zj1]
   ·obtain⟨r5,hr5,hh⟩:=ae hh
    cases hh
    try simp only[eg,seval,-Int.reduceToNat,hr1,Zj1,hr5]
 ·clear hh
  have hh:=ho2
  try simp only[eg,seval,-Int.reduceToNat,hr1]
  refine sp aX hh (fun _ hh =>?_) (fun _ hh =>?_)
  ·cases hh
   try simp only[eg,seval,-Int.reduceToNat,hr1]
   rw[an]
   refine⟨_,rfl,?_⟩
   refine⟨0,0,1,?_,?_,?_,?_,?_,?_,?_⟩
   all_goals first|rfl|(simp only[eg,seval,-Int.reduceToNat,hr1]<;>rfl)
  ·obtain⟨r7,hr7,hh⟩:=ae hh
   cases hh
   try simp only[eg,seval,-Int.reduceToNat,hr1,hr7]
   rw[an]
   refine⟨_,rfl,?_⟩
   refine⟨0,0,1,?_,?_,?_,?_,?_,?_,?_⟩
   all_goals first|rfl|(simp only[eg,seval,-Int.reduceToNat,hr1,hr7]<;>rfl)
theorem DC:bM Tryz.prog 20 qf:=bM.of (mode := .clean) tok Db mixed Tryz.func20 (by kernel_rfl) ⟨by kernel_rfl,by kernel_rfl⟩ (fun _=>Nat.le_of_ble_eq_true (by kernel_rfl)) (fun x r h=>GK x.1 x.2.1 x.2.2.1 x.2.2.2 r h)
noncomputable def mG:=eN (dU (iI (eI .i64)) (dR (aI .i64))) (fun x:(List Int)×Int=>iU x.1 x.2) (fun r:Bool =>.clean (.bool r))
theorem nh (p0:(List Int)) (p1:Int):mG none [.sl false false p0.length (ab (eI .i64) p0),.int .i64 p1]=(iU p0 p1).map fun r:Bool=>(.clean (.bool r),none):=aJ _ _ _ (p0,p1)
theorem GD (p0:(List Int)) (p1:Int) (r:Bool) (hh:iU p0 p1=some r):aP .clean tab aV FU Tryz.f23 none [.sl false false p0.length (ab (eI .i64) p0),.int .i64 p1]=some (.clean (.bool r),none):=by
 refine ax rfl Tryz.ntmps23 Tryz.results23 ?_
 unfold iU at hh
 try simp only[w,seval,-Int.reduceToNat]
 obtain⟨o1,ho1,hh⟩:=ae hh
 refine bW 0 (fun s t H e=>match s with|s19j1=>t 0=.sl false false p0.length (ab (eI .i64) p0)∧t 1=.int .i64 p1∧t 19=.bool s19j1) (fun s=>s=o1) ?_ ?_
 ·rintro s19j1 t H e Zj1 rfl
  try dsimp only at hh
  try simp only[w,seval,-Int.reduceToNat,Zj1]
  refine sp ak hh (fun _ hh =>?_) (fun _ hh =>?_)
  ·cases hh
   try simp only[w,seval,-Int.reduceToNat,Zj1]
  ·try simp only[w,seval,-Int.reduceToNat,Zj1]
   obtain⟨o7,ho7,hh⟩:=ae hh
   refine az (fun s t H e=>match s with|s22b=>t 1=.int .i64 p1∧t 20=.sl false false p0.length (ab (eI .i64) p0)∧t 21=.int .i64 (p0.length:Int)∧t 22=.int .i64 s22b) (fun o x t H e=>match o with|(.inl _)=>x=.exit 0|(.inr r)=>x=.ret∧gT .clean tab none [.tmp 4] ⟨t,H,e⟩=some (.clean (.bool r),none)) ho7 ?_ ?_ ?_
   ·refine⟨?_,?_,?_,?_⟩
    all_goals first|rfl|(simp only[w,seval,-Int.reduceToNat,Zj1]<;>rfl)
   ·rintro s22b t H e Zb c hh
    simp only[jy]at hh
    try simp only[w,seval,-Int.reduceToNat,Zb]
    refine sp ak hh (fun _ hh =>?_) (fun _ hh =>?_)
    ·obtain⟨x9,hx9,hh⟩:=ae hh
     have ax9:=bH (eI .i64) hx9
     simp only[bZ]at ax9
     try simp only[w,seval,-Int.reduceToNat,Zb,ax9]
     refine sp aX hh (fun _ hh =>?_) (fun _ hh =>?_)
     ·cases hh
      try simp only[w,seval,-Int.reduceToNat,Zb,ax9]
      refine yW ⟨rfl,?_⟩
      try simp only[w,seval,-Int.reduceToNat,Zb,ax9]
     ·try simp only[w,seval,-Int.reduceToNat,Zb,ax9]
      refine sp ak hh (fun _ hh =>?_) (fun _ hh =>?_)
      ·cases hh
       try simp only[w,seval,-Int.reduceToNat,Zb,ax9]
       refine yW ⟨rfl,?_⟩
       try simp only[w,seval,-Int.reduceToNat,Zb,ax9]
      ·cases hh
       try simp only[w,seval,-Int.reduceToNat,Zb,ax9]
       refine jg ?_
       refine⟨?_,?_,?_,?_⟩
       all_goals first|rfl|(simp only[w,seval,-Int.reduceToNat,Zb,ax9]<;>rfl)
    ·cases hh
     try simp only[w,seval,-Int.reduceToNat,Zb]
     refine kX ?_
     exact rfl
   ·rintro x t H e hx
    rcases o7 with _|rb
    ·dsimp only at hx hh
     subst hx
     cases hh
     try simp only[w,seval,-Int.reduceToNat]
    ·dsimp only at hx hh
     obtain⟨rfl,hE⟩:=hx
     cases hh
     try simp only[bq,bh,bF,dw,du]
     exact hE
 ·clear hh
  have hh:=ho1
  try simp only[w,seval,-Int.reduceToNat]
  refine sp aX hh (fun _ hh =>?_) (fun _ hh =>?_)
  ·cases hh
   try simp only[w,seval,-Int.reduceToNat]
   rw[an]
   refine⟨_,rfl,?_⟩
   refine⟨?_,?_,?_⟩
   all_goals first|rfl|(simp only[w,seval,-Int.reduceToNat]<;>rfl)
  ·try simp only[w,seval,-Int.reduceToNat]
   refine sp aX hh (fun _ hh =>?_) (fun _ hh =>?_)
   ·cases hh
    try simp only[w,seval,-Int.reduceToNat]
    rw[an]
    refine⟨_,rfl,?_⟩
    refine⟨?_,?_,?_⟩
    all_goals first|rfl|(simp only[w,seval,-Int.reduceToNat]<;>rfl)
   ·cases hh
    try simp only[w,seval,-Int.reduceToNat]
    rw[an]
    refine⟨_,rfl,?_⟩
    refine⟨?_,?_,?_⟩
    all_goals first|rfl|(simp only[w,seval,-Int.reduceToNat]<;>rfl)
theorem uS:bM Tryz.prog 23 mG:=bM.of (mode := .clean) tok bR.none mixed Tryz.func23 (by kernel_rfl) ⟨by kernel_rfl,by kernel_rfl⟩ (fun _=>Nat.le_of_ble_eq_true (by kernel_rfl)) (fun x r h=>GD x.1 x.2 r h)
noncomputable def si:=eN (dU (iI (pQ (eI .i64))) (dU (aI .i64) (dR (aI .i64)))) (fun x:(List (List Int))×Int×Int=>lx x.1 x.2.1 x.2.2) (fun r:(List Int)×Int =>.clean (.tup [.sl false false r.1.length (ab (eI .i64) r.1),.int .i64 r.2]))
theorem zd (p0:(List (List Int))) (p1:Int) (p2:Int):si none [.sl false false p0.length (ab (pQ (eI .i64)) p0),.int .i64 p1,.int .i64 p2]=(lx p0 p1 p2).map fun r:(List Int)×Int=>(.clean (.tup [.sl false false r.1.length (ab (eI .i64) r.1),.int .i64 r.2]),none):=aJ _ _ _ (p0,p1,p2)
noncomputable def oE:Env:=(Am.ext aV 23 false mG)
theorem Gr:bR Tryz.prog oE:=(bR.none.add uS false)
theorem aK:type_of% (ai @w<|ai @nh<|@oE.eq_1):=⟨@w,@nh,@oE.eq_1⟩
theorem JH (p0:(List (List Int))) (p1:Int) (p2:Int) (r:(List Int)×Int) (hh:lx p0 p1 p2=some r):aP .clean tab oE FU Tryz.f82 none [.sl false false p0.length (ab (pQ (eI .i64)) p0),.int .i64 p1,.int .i64 p2]=some (.clean (.tup [.sl false false r.1.length (ab (eI .i64) r.1),.int .i64 r.2]),none):=by
 refine ax rfl Tryz.ntmps82 Tryz.results82 ?_
 unfold lx at hh
 try simp only[aK,seval,-Int.reduceToNat]
 obtain⟨o1,ho1,hh⟩:=ae hh
 refine bW 0 (fun s t H e=>match s with|s32j1=>t 0=.sl false false p0.length (ab (pQ (eI .i64)) p0)∧t 1=.int .i64 p1∧t 2=.int .i64 p2∧t 32=.bool s32j1) (fun s=>s=o1) ?_ ?_
 ·rintro s32j1 t H e Zj1 rfl
  try dsimp only at hh
  try simp only[aK,seval,-Int.reduceToNat,Zj1]
  refine sp ak hh (fun _ hh =>?_) (fun _ hh =>?_)
  ·cases hh
   try simp only[aK,seval,-Int.reduceToNat,Zj1]
  ·obtain⟨x3,hx3,hh⟩:=ae hh
   obtain⟨q4a,q4b,q4c,q4d,q4e⟩:=mk_one (eI .i64) hx3
   simp only[bZ]at q4d
   try simp only[aK,seval,-Int.reduceToNat,Zj1,q4a,q4b,q4c,q4d,q4e]
   obtain⟨o24,ho24,hh⟩:=ae hh
   refine az (fun s t H e=>match s with|(s37b,l8b)=>∃v8b:Nat,t 1=.int .i64 p1∧t 2=.int .i64 p2∧t 8=.buf 8 v8b 1 0 (l8b).length∧t 35=.sl false false p0.length (ab (pQ (eI .i64)) p0)∧t 36=.int .i64 (p0.length:Int)∧t 37=.int .i64 s37b∧H 8=some ⟨v8b,3,ab (eI .i64) l8b,false,true,false⟩) (fun o x t H e=>match o with|(.inl l8bx)=>x=.exit 0∧∃v8bx:Nat,t 8=.buf 8 v8bx 1 0 (l8bx).length∧H 8=some ⟨v8bx,3,ab (eI .i64) l8bx,false,true,false⟩|(.inr r)=>x=.ret∧gT .clean tab none [.tmp 6,.tmp 7] ⟨t,H,e⟩=some (.clean (.tup [.sl false false r.1.length (ab (eI .i64) r.1),.int .i64 r.2]),none)) ho24 ?_ ?_ ?_
   ·refine⟨e,?_,?_,?_,?_,?_,?_,?_⟩
    all_goals first|rfl|(simp only[aK,seval,-Int.reduceToNat,Zj1,q4a,q4b,q4c,q4d,q4e]<;>rfl)
   ·rintro⟨s37b,l8b⟩ t H e ⟨v8b,Zb⟩ c hh
    simp only[nx]at hh
    try simp only[aK,seval,-Int.reduceToNat,q4a,q4b,q4c,q4d,q4e,Zb]
    refine sp ak hh (fun _ hh =>?_) (fun _ hh =>?_)
    ·obtain⟨x26,hx26,hh⟩:=ae hh
     have ax26:=bH (pQ (eI .i64)) hx26
     simp only[bZ]at ax26
     try simp only[aK,seval,-Int.reduceToNat,q4a,q4b,q4c,q4d,q4e,Zb,ax26]
     obtain⟨o27,ho27,hh⟩:=ae hh
     refine bW 0 (fun s t H e=>match s with|s50j5=>∃v8j5:Nat,t 1=.int .i64 p1∧t 2=.int .i64 p2∧t 8=.buf 8 v8j5 1 0 (l8b).length∧t 10=.sl false false x26.length (ab (eI .i64) x26)∧t 35=.sl false false p0.length (ab (pQ (eI .i64)) p0)∧t 36=.int .i64 (p0.length:Int)∧t 37=.int .i64 s37b∧t 50=.bool s50j5∧H 8=some ⟨v8j5,3,ab (eI .i64) l8b,false,true,false⟩) (fun s=>s=o27) ?_ ?_
     ·rintro s50j5 t H e ⟨v8j5,Zj5⟩ rfl
      try dsimp only at hh
      try simp only[aK,seval,-Int.reduceToNat,q4a,q4b,q4c,q4d,q4e,ax26,Zj5]
      refine sp ak hh (fun _ hh =>?_) (fun _ hh =>?_)
      ·cases hh
       try simp only[aK,seval,-Int.reduceToNat,q4a,q4b,q4c,q4d,q4e,ax26,Zj5]
       refine yW ⟨rfl,?_⟩
       try simp only[aK,seval,-Int.reduceToNat,q4a,q4b,q4c,q4d,q4e,ax26,Zj5]
      ·try simp only[aK,seval,-Int.reduceToNat,q4a,q4b,q4c,q4d,q4e,ax26,Zj5]
       obtain⟨o35,ho35,hh⟩:=ae hh
       refine az (fun s t H e=>match s with|(s53f,l8f)=>∃v8f:Nat,t 1=.int .i64 p1∧t 2=.int .i64 p2∧t 8=.buf 8 v8f 1 0 (l8f).length∧t 35=.sl false false p0.length (ab (pQ (eI .i64)) p0)∧t 36=.int .i64 (p0.length:Int)∧t 37=.int .i64 s37b∧t 51=.sl false false x26.length (ab (eI .i64) x26)∧t 52=.int .i64 (x26.length:Int)∧t 53=.int .i64 s53f∧H 8=some ⟨v8f,3,ab (eI .i64) l8f,false,true,false⟩) (fun o x t H e=>match o with|l8fx=>x=.exit 2∧∃v8fx:Nat,t 1=.int .i64 p1∧t 2=.int .i64 p2∧t 8=.buf 8 v8fx 1 0 (l8fx).length∧t 35=.sl false false p0.length (ab (pQ (eI .i64)) p0)∧t 36=.int .i64 (p0.length:Int)∧t 37=.int .i64 s37b∧H 8=some ⟨v8fx,3,ab (eI .i64) l8fx,false,true,false⟩) ho35 ?_ ?_ ?_
       ·refine⟨v8j5,?_,?_,?_,?_,?_,?_,?_,?_,?_,?_⟩
        all_goals first|rfl|(simp only[aK,seval,-Int.reduceToNat,q4a,q4b,q4c,q4d,q4e,ax26,Zj5]<;>rfl)
       ·rintro⟨s53f,l8f⟩ t H e ⟨v8f,Zf⟩ c hh
        simp only[jf]at hh
        try simp only[aK,seval,-Int.reduceToNat,q4a,q4b,q4c,q4d,q4e,ax26,Zf]
        refine sp ak hh (fun _ hh =>?_) (fun _ hh =>?_)
        ·obtain⟨x37,hx37,hh⟩:=ae hh
         have ax37:=bH (eI .i64) hx37
         simp only[bZ]at ax37
         obtain⟨x38,hx38,hh⟩:=ae hh
         have ax38:=bH (eI .i64) hx38
         simp only[bZ]at ax38
         obtain⟨x39,hx39,hh⟩:=ae hh
         have q40:=qP hx39
         have ax38:=bH (eI .i64) hx38
         simp only[bZ]at ax38
         have p41:=jJ (eI .i64) (x':=x39) (fo:=0) (cs:=[.int .i64 x39]) hx38 rfl (Nat.le_of_ble_eq_true rfl)
         simp only[bZ,Nat.add_zero]at p41
         have up41:=p41
         simp only[putCells,List.length_cons,List.length_nil,Nat.zero_add,Nat.reduceAdd]at up41
         cases hh
         try simp only[aK,seval,-Int.reduceToNat,q4a,q4b,q4c,q4d,q4e,ax26,Zf,ax37,ax38,q40,ax38,p41,up41]
         refine jg ?_
         refine⟨v8f,?_,?_,?_,?_,?_,?_,?_,?_,?_,?_⟩
         all_goals first|rfl|(simp only[aK,seval,-Int.reduceToNat,q4a,q4b,q4c,q4d,q4e,ax26,Zf,ax37,ax38,q40,ax38,p41,up41]<;>rfl)
        ·cases hh
         try simp only[aK,seval,-Int.reduceToNat,q4a,q4b,q4c,q4d,q4e,ax26,Zf]
         refine kX ?_
         refine⟨rfl,⟨v8f,?_,?_,?_,?_,?_,?_,?_⟩⟩
         all_goals first|rfl|(simp only[aK,seval,-Int.reduceToNat,q4a,q4b,q4c,q4d,q4e,ax26,Zf]<;>rfl)
       ·rintro x t H e hx
        obtain⟨l8fx,rfl⟩:∃z,z=o35:=⟨_,rfl⟩
        dsimp only at hx hh
        obtain⟨rfl,⟨v8fx,Zfx⟩⟩:=hx
        cases hh
        try simp only[aK,seval,-Int.reduceToNat,q4a,q4b,q4c,q4d,q4e,ax26,Zfx]
        refine jg ?_
        refine⟨v8fx,?_,?_,?_,?_,?_,?_,?_⟩
        all_goals first|rfl|(simp only[aK,seval,-Int.reduceToNat,q4a,q4b,q4c,q4d,q4e,ax26,Zfx]<;>rfl)
     ·clear hh
      have hh:=ho27
      try simp only[aK,seval,-Int.reduceToNat,q4a,q4b,q4c,q4d,q4e,Zb,ax26]
      refine sp aX hh (fun _ hh =>?_) (fun _ hh =>?_)
      ·cases hh
       try simp only[aK,seval,-Int.reduceToNat,q4a,q4b,q4c,q4d,q4e,Zb,ax26]
       rw[an]
       refine⟨_,rfl,?_⟩
       refine⟨v8b,?_,?_,?_,?_,?_,?_,?_,?_,?_⟩
       all_goals first|rfl|(simp only[aK,seval,-Int.reduceToNat,q4a,q4b,q4c,q4d,q4e,Zb,ax26]<;>rfl)
      ·obtain⟨r43,hr43,hh⟩:=ae hh
       cases hh
       try simp only[aK,seval,-Int.reduceToNat,q4a,q4b,q4c,q4d,q4e,Zb,ax26,hr43]
       rw[an]
       refine⟨_,rfl,?_⟩
       refine⟨v8b,?_,?_,?_,?_,?_,?_,?_,?_,?_⟩
       all_goals first|rfl|(simp only[aK,seval,-Int.reduceToNat,q4a,q4b,q4c,q4d,q4e,Zb,ax26,hr43]<;>rfl)
    ·cases hh
     try simp only[aK,seval,-Int.reduceToNat,q4a,q4b,q4c,q4d,q4e,Zb]
     refine kX ?_
     refine⟨rfl,⟨v8b,?_,?_⟩⟩
     all_goals first|rfl|(simp only[aK,seval,-Int.reduceToNat,q4a,q4b,q4c,q4d,q4e,Zb]<;>rfl)
   ·rintro x t H e hx
    rcases o24 with l8bx|rb
    ·dsimp only at hx hh
     obtain⟨rfl,⟨v8bx,Zbx⟩⟩:=hx
     cases hh
     try simp only[aK,seval,-Int.reduceToNat,q4a,q4b,q4c,q4d,q4e,Zbx]
    ·dsimp only at hx hh
     obtain⟨rfl,hE⟩:=hx
     cases hh
     try simp only[bq,bh,bF,dw,du]
     exact hE
 ·clear hh
  have hh:=ho1
  try simp only[aK,seval,-Int.reduceToNat]
  refine sp aX hh (fun _ hh =>?_) (fun _ hh =>?_)
  ·cases hh
   try simp only[aK,seval,-Int.reduceToNat]
   rw[an]
   refine⟨_,rfl,?_⟩
   refine⟨?_,?_,?_,?_⟩
   all_goals first|rfl|(simp only[aK,seval,-Int.reduceToNat]<;>rfl)
  ·try simp only[aK,seval,-Int.reduceToNat]
   refine sp aX hh (fun _ hh =>?_) (fun _ hh =>?_)
   ·cases hh
    try simp only[aK,seval,-Int.reduceToNat]
    rw[an]
    refine⟨_,rfl,?_⟩
    refine⟨?_,?_,?_,?_⟩
    all_goals first|rfl|(simp only[aK,seval,-Int.reduceToNat]<;>rfl)
   ·try simp only[aK,seval,-Int.reduceToNat]
    refine sp aX hh (fun _ hh =>?_) (fun _ hh =>?_)
    ·cases hh
     try simp only[aK,seval,-Int.reduceToNat]
     rw[an]
     refine⟨_,rfl,?_⟩
     refine⟨?_,?_,?_,?_⟩
     all_goals first|rfl|(simp only[aK,seval,-Int.reduceToNat]<;>rfl)
    ·try simp only[aK,seval,-Int.reduceToNat]
     refine sp aX hh (fun _ hh =>?_) (fun _ hh =>?_)
     ·cases hh
      try simp only[aK,seval,-Int.reduceToNat]
      rw[an]
      refine⟨_,rfl,?_⟩
      refine⟨?_,?_,?_,?_⟩
      all_goals first|rfl|(simp only[aK,seval,-Int.reduceToNat]<;>rfl)
     ·cases hh
      try simp only[aK,seval,-Int.reduceToNat]
      rw[an]
      refine⟨_,rfl,?_⟩
      refine⟨?_,?_,?_,?_⟩
      all_goals first|rfl|(simp only[aK,seval,-Int.reduceToNat]<;>rfl)
theorem G0:bM Tryz.prog 82 si:=bM.of (mode := .clean) tok Gr mixed Tryz.func82 (by kernel_rfl) ⟨by kernel_rfl,by kernel_rfl⟩ (fun _=>Nat.le_of_ble_eq_true (by kernel_rfl)) (fun x r h=>JH x.1 x.2.1 x.2.2 r h)
noncomputable def mu:=eN (dR (iI (eI .i64))) (fun x:(List Int)=>jw x) (fun r:(List Int) =>.clean (.clo 156 0 [.ip [.sl false false r.length (ab (eI .i64) r)]]))
theorem rO (p0:(List Int)):mu none [.sl false false p0.length (ab (eI .i64) p0)]=(jw p0).map fun r:(List Int)=>(.clean (.clo 156 0 [.ip [.sl false false r.length (ab (eI .i64) r)]]),none):=aJ _ _ _ p0
theorem yd:bM Tryz.prog 116 mu:=P5
noncomputable def db:=eN (dR (Qn 156 0 (dR (Qo (pQ (eI .i64)))))) (fun x:(List Int)=>bV x) (fun r:(List Int) =>.fresh 3 1 r.length (ab (eI .i64) r))
theorem eJ (p0:(List Int)):db none [.clo 156 0 [.ip [.sl false false p0.length (ab (eI .i64) p0)]]]=(bV p0).map fun r:(List Int)=>(.fresh 3 1 r.length (ab (eI .i64) r),none):=aJ _ _ _ p0
theorem iB:bM Tryz.prog 115 db:=PV
noncomputable def p7:=eN (dR (iI (eI .i64))) (fun x:(List Int)=>iV x) (fun r:Bool =>.clean (.bool r))
theorem wW (p0:(List Int)):p7 none [.sl false false p0.length (ab (eI .i64) p0)]=(iV p0).map fun r:Bool=>(.clean (.bool r),none):=aJ _ _ _ (p0)
noncomputable def mR:Env:=(Am.ext (Am.ext (Am.ext aV 70 true gS) 115 false db) 116 false mu)
theorem C6:bR Tryz.prog mR:=(((bR.none.add mE true).add iB false).add yd false)
theorem Ho:type_of% (ai @w<|ai @eJ<|ai @rO<|@mR.eq_1):=⟨@w,@eJ,@rO,@mR.eq_1⟩
theorem GF (p0:(List Int)) (r:Bool) (hh:iV p0=some r):aP .clean tab mR FU Tryz.f83 none [.sl false false p0.length (ab (eI .i64) p0)]=some (.clean (.bool r),none):=by
 refine ax rfl Tryz.ntmps83 Tryz.results83 ?_
 unfold iV at hh
 obtain⟨r1,hr1,hh⟩:=ae hh
 obtain⟨r2,hr2,hh⟩:=ae hh
 have i3:=nY [] [] r2
 try simp only[List.nil_append,List.append_nil,List.length_nil,aN,List.length_set,bZ]at i3
 obtain⟨r4,hr4,hh⟩:=ae hh
 cases hh
 try simp only[Ho,seval,-Int.reduceToNat,hr1,hr2,i3,hr4]
theorem Dy:bM Tryz.prog 83 p7:=bM.of (mode := .clean) tok C6 mixed Tryz.func83 (by kernel_rfl) ⟨by kernel_rfl,by kernel_rfl⟩ (fun _=>Nat.le_of_ble_eq_true (by kernel_rfl)) (fun x r h=>GF x r h)
noncomputable def sh:=eN (dU (dm dQ) (dU (iI (eI .i64)) (dU (iI (pQ (eI .i64))) (dU (iI (eI .i64)) (dU (aI .i64) (dR (aI .i64))))))) (fun x:aw×(List Int)×(List (List Int))×(List Int)×Int×Int=>ka x.1 x.2.1 x.2.2.1 x.2.2.2.1 x.2.2.2.2.1 x.2.2.2.2.2) (fun r:(List Int)×Int =>.clean (.tup [.sl false false r.1.length (ab (eI .i64) r.1),.int .i64 r.2]))
theorem zc (p0_0:(List aj)) (p1:(List Int)) (p2:(List (List Int))) (p3:(List Int)) (p4:Int) (p5:Int):sh none [.agg [.sl false false p0_0.length (ab al p0_0)],.sl false false p1.length (ab (eI .i64) p1),.sl false false p2.length (ab (pQ (eI .i64)) p2),.sl false false p3.length (ab (eI .i64) p3),.int .i64 p4,.int .i64 p5]=(ka (aw.mk p0_0) p1 p2 p3 p4 p5).map fun r:(List Int)×Int=>(.clean (.tup [.sl false false r.1.length (ab (eI .i64) r.1),.int .i64 r.2]),none):=aJ _ _ _ ((aw.mk p0_0),p1,p2,p3,p4,p5)
noncomputable def oD:Env:=(Am.ext (Am.ext (Am.ext (Am.ext aV 21 false oq) 82 false si) 83 false p7) 84 false lH)
theorem Gq:bR Tryz.prog oD:=((((bR.none.add wS false).add G0 false).add Dy false).add tk false)
theorem bI:type_of% (ai @w<|ai @ma<|ai @zd<|ai @wW<|ai @lW<|@oD.eq_1):=⟨@w,@ma,@zd,@wW,@lW,@oD.eq_1⟩
theorem JG (p0:aw) (p1:(List Int)) (p2:(List (List Int))) (p3:(List Int)) (p4:Int) (p5:Int) (r:(List Int)×Int) (hh:ka p0 p1 p2 p3 p4 p5=some r):aP .clean tab oD FU Tryz.f47 none [.agg [.sl false false p0.ag.length (ab al p0.ag)],.sl false false p1.length (ab (eI .i64) p1),.sl false false p2.length (ab (pQ (eI .i64)) p2),.sl false false p3.length (ab (eI .i64) p3),.int .i64 p4,.int .i64 p5]=some (.clean (.tup [.sl false false r.1.length (ab (eI .i64) r.1),.int .i64 r.2]),none):=by
 refine ax rfl Tryz.ntmps47 Tryz.results47 ?_
 unfold ka at hh
 obtain⟨r1,hr1,hh⟩:=ae hh
 try simp only[bI,seval,-Int.reduceToNat,hr1]
 refine sp ak hh (fun _ hh =>?_) (fun _ hh =>?_)
 ·cases hh
  try simp only[bI,seval,-Int.reduceToNat,hr1]
 ·try simp only[bI,seval,-Int.reduceToNat,hr1]
  obtain⟨o3,ho3,hh⟩:=ae hh
  refine bW 0 (fun s t H e=>match s with|s29j1=>∃v6j1:Nat,t 1=.sl false false p1.length (ab (eI .i64) p1)∧t 2=.sl false false p2.length (ab (pQ (eI .i64)) p2)∧t 3=.sl false false p3.length (ab (eI .i64) p3)∧t 6=.ptr 6 v6j1 0∧t 14=.sl false false r1.1.length (ab (eI .i64) r1.1)∧t 29=.bool s29j1∧H 6=some ⟨v6j1,24,[.sl false false p0.ag.length (ab al p0.ag)],false,false,false⟩) (fun s=>s=o3) ?_ ?_
  ·rintro s29j1 t H e ⟨v6j1,Zj1⟩ rfl
   try dsimp only at hh
   try simp only[bI,seval,-Int.reduceToNat,hr1,Zj1]
   refine sp ak hh (fun _ hh =>?_) (fun _ hh =>?_)
   ·cases hh
    try simp only[bI,seval,-Int.reduceToNat,hr1,Zj1]
   ·obtain⟨r5,hr5,hh⟩:=ae hh
    try simp only[bI,seval,-Int.reduceToNat,hr1,Zj1,hr5]
    refine sp ak hh (fun _ hh =>?_) (fun _ hh =>?_)
    ·cases hh
     try simp only[bI,seval,-Int.reduceToNat,hr1,Zj1,hr5]
    ·try simp only[bI,seval,-Int.reduceToNat,hr1,Zj1,hr5]
     obtain⟨o14,ho14,hh⟩:=ae hh
     refine az (fun s t H e=>match s with|s47b=>∃v6b:Nat,t 2=.sl false false p2.length (ab (pQ (eI .i64)) p2)∧t 3=.sl false false p3.length (ab (eI .i64) p3)∧t 6=.ptr 6 v6b 0∧t 14=.sl false false r1.1.length (ab (eI .i64) r1.1)∧t 45=.sl false false p1.length (ab (eI .i64) p1)∧t 46=.int .i64 (p1.length:Int)∧t 47=.int .i64 s47b∧H 6=some ⟨v6b,24,[.sl false false p0.ag.length (ab al p0.ag)],false,false,false⟩) (fun o x t H e=>match o with|(.inl _)=>x=.exit 1∧t 14=.sl false false r1.1.length (ab (eI .i64) r1.1)|(.inr r)=>x=.ret∧gT .clean tab none [.tmp 12,.tmp 13] ⟨t,H,e⟩=some (.clean (.tup [.sl false false r.1.length (ab (eI .i64) r.1),.int .i64 r.2]),none)) ho14 ?_ ?_ ?_
     ·refine⟨v6j1,?_,?_,?_,?_,?_,?_,?_,?_⟩
      all_goals first|rfl|(simp only[bI,seval,-Int.reduceToNat,hr1,Zj1,hr5]<;>rfl)
     ·rintro s47b t H e ⟨v6b,Zb⟩ c hh
      simp only[kR]at hh
      try simp only[bI,seval,-Int.reduceToNat,hr1,hr5,Zb]
      refine sp ak hh (fun _ hh =>?_) (fun _ hh =>?_)
      ·obtain⟨x16,hx16,hh⟩:=ae hh
       have ax16:=bH (eI .i64) hx16
       simp only[bZ]at ax16
       obtain⟨x17,hx17,hh⟩:=ae hh
       have ax17:=bH (pQ (eI .i64)) hx17
       simp only[bZ]at ax17
       obtain⟨r18,hr18,hh⟩:=ae hh
       obtain⟨x19,hx19,hh⟩:=ae hh
       have ax19:=bH (eI .i64) hx19
       simp only[bZ]at ax19
       obtain⟨r20,hr20,hh⟩:=ae hh
       try simp only[bI,seval,-Int.reduceToNat,hr1,hr5,Zb,ax16,ax17,hr18,ax19,hr20]
       refine cj (by kernel_rfl) ?_
       try simp only[bI,seval,-Int.reduceToNat,hr1,hr5,Zb,ax16,ax17,hr18,ax19,hr20]
       refine sp ak hh (fun _ hh =>?_) (fun _ hh =>?_)
       ·cases hh
        try simp only[bI,seval,-Int.reduceToNat,hr1,hr5,Zb,ax16,ax17,hr18,ax19,hr20]
        refine yW ⟨rfl,?_⟩
        try simp only[bI,seval,-Int.reduceToNat,hr1,hr5,Zb,ax16,ax17,hr18,ax19,hr20]
       ·cases hh
        try simp only[bI,seval,-Int.reduceToNat,hr1,hr5,Zb,ax16,ax17,hr18,ax19,hr20]
        refine jg ?_
        refine⟨v6b,?_,?_,?_,?_,?_,?_,?_,?_⟩
        all_goals first|rfl|(simp only[bI,seval,-Int.reduceToNat,hr1,hr5,Zb,ax16,ax17,hr18,ax19,hr20]<;>rfl)
      ·cases hh
       try simp only[bI,seval,-Int.reduceToNat,hr1,hr5,Zb]
       refine kX ?_
       refine⟨rfl,?_⟩
       all_goals first|rfl|(simp only[bI,seval,-Int.reduceToNat,hr1,hr5,Zb]<;>rfl)
     ·rintro x t H e hx
      rcases o14 with _|rb
      ·dsimp only at hx hh
       obtain⟨rfl,Zbx⟩:=hx
       cases hh
       try simp only[bI,seval,-Int.reduceToNat,hr1,hr5,Zbx]
      ·dsimp only at hx hh
       obtain⟨rfl,hE⟩:=hx
       cases hh
       try simp only[bq,bh,bF,dw,du]
       exact hE
  ·clear hh
   have hh:=ho3
   try simp only[bI,seval,-Int.reduceToNat,hr1]
   refine sp aX hh (fun _ hh =>?_) (fun _ hh =>?_)
   ·cases hh
    try simp only[bI,seval,-Int.reduceToNat,hr1]
    rw[an]
    refine⟨_,rfl,?_⟩
    refine⟨0,?_,?_,?_,?_,?_,?_,?_⟩
    all_goals first|rfl|(simp only[bI,seval,-Int.reduceToNat,hr1]<;>rfl)
   ·cases hh
    try simp only[bI,seval,-Int.reduceToNat,hr1]
    rw[an]
    refine⟨_,rfl,?_⟩
    refine⟨0,?_,?_,?_,?_,?_,?_,?_⟩
    all_goals first|rfl|(simp only[bI,seval,-Int.reduceToNat,hr1]<;>rfl)
theorem GZ:bM Tryz.prog 47 sh:=bM.of (mode := .clean) tok Gq mixed Tryz.func47 (by kernel_rfl) ⟨by kernel_rfl,by kernel_rfl⟩ (fun _=>Nat.le_of_ble_eq_true (by kernel_rfl)) (fun x r h=>JG x.1 x.2.1 x.2.2.1 x.2.2.2.1 x.2.2.2.2.1 x.2.2.2.2.2 r h)
theorem Vx:Qf Tryz.prog 85 (3,1,8):=Ph Tryz.VA Tryz.func85 ⟨by kernel_rfl,by kernel_rfl⟩
noncomputable def sg:=eN (dU (iI (eI .i64)) (dR (aI .i64))) (fun x:(List Int)×Int=>nB x.1 x.2) (fun r:(List Int)×Int =>.clean (.tup [.sl false false r.1.length (ab (eI .i64) r.1),.int .i64 r.2]))
theorem zb (p0:(List Int)) (p1:Int):sg none [.sl false false p0.length (ab (eI .i64) p0),.int .i64 p1]=(nB p0 p1).map fun r:(List Int)×Int=>(.clean (.tup [.sl false false r.1.length (ab (eI .i64) r.1),.int .i64 r.2]),none):=aJ _ _ _ (p0,p1)
noncomputable def oC:Env:=(Am.BM 85 (3,1,8) (Am.ext aV 23 false mG))
theorem Gp:bR Tryz.prog oC:=(bR.BM (bR.none.add uS false) Vx)
theorem cg:type_of% (ai @w<|ai @nh<|@oC.eq_1):=⟨@w,@nh,@oC.eq_1⟩
theorem JF (p0:(List Int)) (p1:Int) (r:(List Int)×Int) (hh:nB p0 p1=some r):aP .clean tab oC FU Tryz.f48 none [.sl false false p0.length (ab (eI .i64) p0),.int .i64 p1]=some (.clean (.tup [.sl false false r.1.length (ab (eI .i64) r.1),.int .i64 r.2]),none):=by
 refine ax rfl Tryz.ntmps48 Tryz.results48 ?_
 unfold nB at hh
 obtain⟨r1,hr1,hh⟩:=ae hh
 try simp only[cg,ne_eq,not_false_eq_true,seval,-Int.reduceToNat,hr1]
 refine sp ak hh (fun _ hh =>?_) (fun _ hh =>?_)
 ·cases hh
  try simp only[cg,ne_eq,not_false_eq_true,seval,-Int.reduceToNat,hr1]
 ·obtain⟨x3,hx3,hh⟩:=ae hh
  obtain⟨q4a,q4b,q4c,q4d,q4e,q4f,q4g⟩:=VC (eI .i64) hx3
  simp only[bZ]at q4d
  try simp only[cg,ne_eq,not_false_eq_true,seval,-Int.reduceToNat,hr1,q4a,q4b,q4c,q4d,q4e,q4f,q4g]
  obtain⟨o18,ho18,hh⟩:=ae hh
  refine az (fun s t H e=>match s with|(s20a,l6a,l7a)=>∃v6a:Nat,∃v7a:Nat,t 6=.buf 6 v6a 1 0 (l6a).length∧t 7=.buf 7 v7a 1 0 (l7a).length∧t 18=.sl false false p0.length (ab (eI .i64) p0)∧t 19=.int .i64 (p0.length:Int)∧t 20=.int .i64 s20a∧H 6=some ⟨v6a,3,ab (eI .i64) l6a,false,true,false⟩∧H 7=some ⟨v7a,3,ab (eI .i64) l7a,false,true,false⟩) (fun o x t H e=>match o with|l6ax=>x=.exit 0∧∃v6ax:Nat,t 6=.buf 6 v6ax 1 0 (l6ax).length∧H 6=some ⟨v6ax,3,ab (eI .i64) l6ax,false,true,false⟩) ho18 ?_ ?_ ?_
  ·refine⟨2,3,?_,?_,?_,?_,?_,?_,?_⟩
   all_goals first|rfl|(simp only[cg,ne_eq,not_false_eq_true,seval,-Int.reduceToNat,hr1,q4a,q4b,q4c,q4d,q4e,q4f,q4g]<;>rfl)
  ·rintro⟨s20a,l6a,l7a⟩ t H e ⟨v6a,v7a,Za⟩ c hh
   simp only[xb]at hh
   try simp only[cg,ne_eq,not_false_eq_true,seval,-Int.reduceToNat,hr1,q4a,q4b,q4c,q4d,q4e,q4f,q4g,Za]
   refine sp ak hh (fun _ hh =>?_) (fun _ hh =>?_)
   ·obtain⟨x20,hx20,hh⟩:=ae hh
    have ax20:=bH (eI .i64) hx20
    simp only[bZ]at ax20
    try simp only[cg,ne_eq,not_false_eq_true,seval,-Int.reduceToNat,hr1,q4a,q4b,q4c,q4d,q4e,q4f,q4g,Za,ax20]
    obtain⟨o24,ho24,hh⟩:=ae hh
    refine az (fun s t H e=>match s with|(s9c,s10c)=>∃v6c:Nat,∃v7c:Nat,t 6=.buf 6 v6c 1 0 (l6a).length∧t 7=.buf 7 v7c 1 0 (l7a).length∧t 9=.int .i64 s9c∧t 10=.int .i64 s10c∧t 18=.sl false false p0.length (ab (eI .i64) p0)∧t 19=.int .i64 (p0.length:Int)∧t 20=.int .i64 s20a∧H 6=some ⟨v6c,3,ab (eI .i64) l6a,false,true,false⟩∧H 7=some ⟨v7c,3,ab (eI .i64) l7a,false,true,false⟩) (fun o x t H e=>match o with|(s9cx,s10cx)=>x=.exit 2∧∃v6cx:Nat,∃v7cx:Nat,t 6=.buf 6 v6cx 1 0 (l6a).length∧t 7=.buf 7 v7cx 1 0 (l7a).length∧t 9=.int .i64 s9cx∧t 10=.int .i64 s10cx∧t 18=.sl false false p0.length (ab (eI .i64) p0)∧t 19=.int .i64 (p0.length:Int)∧t 20=.int .i64 s20a∧H 6=some ⟨v6cx,3,ab (eI .i64) l6a,false,true,false⟩∧H 7=some ⟨v7cx,3,ab (eI .i64) l7a,false,true,false⟩) ho24 ?_ ?_ ?_
    ·refine⟨v6a,v7a,?_,?_,?_,?_,?_,?_,?_,?_,?_⟩
     all_goals first|rfl|(simp only[cg,ne_eq,not_false_eq_true,seval,-Int.reduceToNat,hr1,q4a,q4b,q4c,q4d,q4e,q4f,q4g,Za,ax20]<;>rfl)
    ·rintro⟨s9c,s10c⟩ t H e ⟨v6c,v7c,Zc⟩ c hh
     simp only[xc]at hh
     try simp only[cg,ne_eq,not_false_eq_true,seval,-Int.reduceToNat,hr1,q4a,q4b,q4c,q4d,q4e,q4f,q4g,ax20,Zc]
     refine sp bB hh (fun _ hh =>?_) (fun _ hh =>?_)
     ·obtain⟨x26,hx26,hh⟩:=ae hh
      have ax26:=bH (eI .i64) hx26
      simp only[bZ]at ax26
      try simp only[cg,ne_eq,not_false_eq_true,seval,-Int.reduceToNat,hr1,q4a,q4b,q4c,q4d,q4e,q4f,q4g,ax20,Zc,ax26]
      refine sp ak hh (fun _ hh =>?_) (fun _ hh =>?_)
      ·cases hh
       try simp only[cg,ne_eq,not_false_eq_true,seval,-Int.reduceToNat,hr1,q4a,q4b,q4c,q4d,q4e,q4f,q4g,ax20,Zc,ax26]
       refine jg ?_
       refine⟨v6c,v7c,?_,?_,?_,?_,?_,?_,?_,?_,?_⟩
       all_goals first|rfl|(simp only[cg,ne_eq,not_false_eq_true,seval,-Int.reduceToNat,hr1,q4a,q4b,q4c,q4d,q4e,q4f,q4g,ax20,Zc,ax26]<;>rfl)
      ·cases hh
       try simp only[cg,ne_eq,not_false_eq_true,seval,-Int.reduceToNat,hr1,q4a,q4b,q4c,q4d,q4e,q4f,q4g,ax20,Zc,ax26]
       refine kX ?_
       refine⟨rfl,⟨v6c,v7c,?_,?_,?_,?_,?_,?_,?_,?_,?_⟩⟩
       all_goals first|rfl|(simp only[cg,ne_eq,not_false_eq_true,seval,-Int.reduceToNat,hr1,q4a,q4b,q4c,q4d,q4e,q4f,q4g,ax20,Zc,ax26]<;>rfl)
     ·cases hh
      try simp only[cg,ne_eq,not_false_eq_true,seval,-Int.reduceToNat,hr1,q4a,q4b,q4c,q4d,q4e,q4f,q4g,ax20,Zc]
      refine kX ?_
      refine⟨rfl,⟨v6c,v7c,?_,?_,?_,?_,?_,?_,?_,?_,?_⟩⟩
      all_goals first|rfl|(simp only[cg,ne_eq,not_false_eq_true,seval,-Int.reduceToNat,hr1,q4a,q4b,q4c,q4d,q4e,q4f,q4g,ax20,Zc]<;>rfl)
    ·rintro x t H e hx
     rcases o24 with⟨s9cx,s10cx⟩
     dsimp only at hx hh
     obtain⟨rfl,⟨v6cx,v7cx,Zcx⟩⟩:=hx
     obtain⟨x28,hx28,hh⟩:=ae hh
     obtain⟨q29a,q29b,q29c,q29d⟩:=ey (eI .i64) hx28
     simp only[bZ]at q29b
     obtain⟨x30,hx30,hh⟩:=ae hh
     obtain⟨q31a,q31b,q31c,q31d,q31e⟩:=TO (eI .i64) hx30
     simp only[bZ]at q31e
     cases hh
     try simp only[cg,ne_eq,not_false_eq_true,seval,-Int.reduceToNat,hr1,q4a,q4b,q4c,q4d,q4e,q4f,q4g,ax20,Zcx,q29a,q29b,q29c,q29d,q31a,q31b,q31c,q31d,q31e]
     refine jg ?_
     refine⟨e,e,?_,?_,?_,?_,?_,?_,?_⟩
     all_goals first|rfl|(simp only[cg,ne_eq,not_false_eq_true,seval,-Int.reduceToNat,hr1,q4a,q4b,q4c,q4d,q4e,q4f,q4g,ax20,Zcx,q29a,q29b,q29c,q29d,q31a,q31b,q31c,q31d,q31e]<;>rfl)
   ·cases hh
    try simp only[cg,ne_eq,not_false_eq_true,seval,-Int.reduceToNat,hr1,q4a,q4b,q4c,q4d,q4e,q4f,q4g,Za]
    refine kX ?_
    refine⟨rfl,⟨v6a,?_,?_⟩⟩
    all_goals first|rfl|(simp only[cg,ne_eq,not_false_eq_true,seval,-Int.reduceToNat,hr1,q4a,q4b,q4c,q4d,q4e,q4f,q4g,Za]<;>rfl)
  ·rintro x t H e hx
   obtain⟨l6ax,rfl⟩:∃z,z=o18:=⟨_,rfl⟩
   dsimp only at hx hh
   obtain⟨rfl,⟨v6ax,Zax⟩⟩:=hx
   cases hh
   try simp only[cg,ne_eq,not_false_eq_true,seval,-Int.reduceToNat,hr1,q4a,q4b,q4c,q4d,q4e,q4f,q4g,Zax]
theorem GY:bM Tryz.prog 48 sg:=bM.of (mode := .clean) tok Gp mixed Tryz.func48 (by kernel_rfl) ⟨by kernel_rfl,by kernel_rfl⟩ (fun _=>Nat.le_of_ble_eq_true (by kernel_rfl)) (fun x r h=>JF x.1 x.2 r h)
noncomputable def oX:=eN (dU (dm dQ) (dU (iI (eI .i64)) (dU (iI (pQ (eI .i64))) (dU (iI (eI .i64)) (dU (iI (eI .i64)) (dR (aI .i64))))))) (fun x:aw×(List Int)×(List (List Int))×(List Int)×(List Int)×Int=>iN x.1 x.2.1 x.2.2.1 x.2.2.2.1 x.2.2.2.2.1 x.2.2.2.2.2) (fun r:(List Int)×Int =>.clean (.tup [.sl false false r.1.length (ab (eI .i64) r.1),.int .i64 r.2]))
theorem pj (p0_0:(List aj)) (p1:(List Int)) (p2:(List (List Int))) (p3:(List Int)) (p4:(List Int)) (p5:Int):oX none [.agg [.sl false false p0_0.length (ab al p0_0)],.sl false false p1.length (ab (eI .i64) p1),.sl false false p2.length (ab (pQ (eI .i64)) p2),.sl false false p3.length (ab (eI .i64) p3),.sl false false p4.length (ab (eI .i64) p4),.int .i64 p5]=(iN (aw.mk p0_0) p1 p2 p3 p4 p5).map fun r:(List Int)×Int=>(.clean (.tup [.sl false false r.1.length (ab (eI .i64) r.1),.int .i64 r.2]),none):=aJ _ _ _ ((aw.mk p0_0),p1,p2,p3,p4,p5)
noncomputable def lJ:Env:=(Am.ext (Am.ext (Am.ext aV 42 false lC) 47 false sh) 48 false sg)
theorem By:bR Tryz.prog lJ:=(((bR.none.add s9 false).add GZ false).add GY false)
theorem dj:type_of% (ai @w<|ai @lS<|ai @zc<|ai @zb<|@lJ.eq_1):=⟨@w,@lS,@zc,@zb,@lJ.eq_1⟩
theorem Df (p0:aw) (p1:(List Int)) (p2:(List (List Int))) (p3:(List Int)) (p4:(List Int)) (p5:Int) (r:(List Int)×Int) (hh:iN p0 p1 p2 p3 p4 p5=some r):aP .clean tab lJ FU Tryz.f15 none [.agg [.sl false false p0.ag.length (ab al p0.ag)],.sl false false p1.length (ab (eI .i64) p1),.sl false false p2.length (ab (pQ (eI .i64)) p2),.sl false false p3.length (ab (eI .i64) p3),.sl false false p4.length (ab (eI .i64) p4),.int .i64 p5]=some (.clean (.tup [.sl false false r.1.length (ab (eI .i64) r.1),.int .i64 r.2]),none):=by
 refine ax rfl Tryz.ntmps15 Tryz.results15 ?_
 unfold iN at hh
 obtain⟨r1,hr1,hh⟩:=ae hh
 try simp only[dj,seval,-Int.reduceToNat,hr1]
 refine sp ak hh (fun _ hh =>?_) (fun _ hh =>?_)
 ·cases hh
  try simp only[dj,seval,-Int.reduceToNat,hr1]
 ·obtain⟨r3,hr3,hh⟩:=ae hh
  try simp only[dj,seval,-Int.reduceToNat,hr1,hr3]
  refine sp ak hh (fun _ hh =>?_) (fun _ hh =>?_)
  ·cases hh
   try simp only[dj,seval,-Int.reduceToNat,hr1,hr3]
  ·obtain⟨r5,hr5,hh⟩:=ae hh
   try simp only[dj,seval,-Int.reduceToNat,hr1,hr3,hr5]
   obtain⟨o11,ho11,hh⟩:=ae hh
   refine az (fun s t H e=>match s with|(s46a,l18a)=>∃v18a:Nat,t 4=.sl false false p4.length (ab (eI .i64) p4)∧t 18=.buf 18 v18a 1 0 (l18a).length∧t 44=.sl false false r5.1.length (ab (eI .i64) r5.1)∧t 45=.int .i64 (r5.1.length:Int)∧t 46=.int .i64 s46a∧H 18=some ⟨v18a,3,ab (eI .i64) l18a,false,true,false⟩) (fun o x t H e=>match o with|l18ax=>x=.exit 0∧∃v18ax:Nat,t 18=.buf 18 v18ax 1 0 (l18ax).length∧H 18=some ⟨v18ax,3,ab (eI .i64) l18ax,false,true,false⟩) ho11 ?_ ?_ ?_
   ·refine⟨5,?_,?_,?_,?_,?_,?_⟩
    all_goals first|rfl|(simp only[dj,seval,-Int.reduceToNat,hr1,hr3,hr5]<;>rfl)
   ·rintro⟨s46a,l18a⟩ t H e ⟨v18a,Za⟩ c hh
    simp only[nG]at hh
    try simp only[dj,seval,-Int.reduceToNat,hr1,hr3,hr5,Za]
    refine sp ak hh (fun _ hh =>?_) (fun _ hh =>?_)
    ·obtain⟨x13,hx13,hh⟩:=ae hh
     have ax13:=bH (eI .i64) hx13
     simp only[bZ]at ax13
     obtain⟨x14,hx14,hh⟩:=ae hh
     have ax14:=bH (eI .i64) hx14
     simp only[bZ]at ax14
     obtain⟨x15,hx15,hh⟩:=ae hh
     obtain⟨q16a,q16b,q16c,q16d⟩:=ey (eI .i64) hx15
     simp only[bZ]at q16b
     cases hh
     try simp only[dj,seval,-Int.reduceToNat,hr1,hr3,hr5,Za,ax13,ax14,q16a,q16b,q16c,q16d]
     refine jg ?_
     refine⟨e+1+1,?_,?_,?_,?_,?_,?_⟩
     all_goals first|rfl|(simp only[dj,seval,-Int.reduceToNat,hr1,hr3,hr5,Za,ax13,ax14,q16a,q16b,q16c,q16d]<;>rfl)
    ·cases hh
     try simp only[dj,seval,-Int.reduceToNat,hr1,hr3,hr5,Za]
     refine kX ?_
     refine⟨rfl,⟨v18a,?_,?_⟩⟩
     all_goals first|rfl|(simp only[dj,seval,-Int.reduceToNat,hr1,hr3,hr5,Za]<;>rfl)
   ·rintro x t H e hx
    obtain⟨l18ax,rfl⟩:∃z,z=o11:=⟨_,rfl⟩
    dsimp only at hx hh
    obtain⟨rfl,⟨v18ax,Zax⟩⟩:=hx
    cases hh
    try simp only[dj,seval,-Int.reduceToNat,hr1,hr3,hr5,Zax]
theorem B4:bM Tryz.prog 15 oX:=bM.of (mode := .clean) tok By mixed Tryz.func15 (by kernel_rfl) ⟨by kernel_rfl,by kernel_rfl⟩ (fun _=>Nat.le_of_ble_eq_true (by kernel_rfl)) (fun x r h=>Df x.1 x.2.1 x.2.2.1 x.2.2.2.1 x.2.2.2.2.1 x.2.2.2.2.2 r h)
noncomputable def sd:=eN (Tn) (fun x:Unit=>ll) (fun r:Bool =>.clean (.bool r))
theorem y9:sd none []=(ll).map fun r:Bool=>(.clean (.bool r),none):=aJ _ _ _ ()
noncomputable def oz:Env:=(Am.ext (Am.ext (Am.ext (Am.ext (Am.ext (Am.ext (Am.ext (Am.ext aV 13 false jm) 15 false oX) 18 false nE) 20 false qf) 21 false oq) 35 false oZ) 37 false mH) 38 false vn)
theorem Gl:bR Tryz.prog oz:=((((((((bR.none.add nW false).add B4 false).add zO false).add DC false).add wS false).add B7 false).add uT false).add J4 false)
theorem ba:type_of% (ai @w<|ai @fh<|ai @pj<|ai @kK<|ai @w6<|ai @ma<|ai @uX<|ai @kM<|ai @lr<|@oz.eq_1):=⟨@w,@fh,@pj,@kK,@w6,@ma,@uX,@kM,@lr,@oz.eq_1⟩
theorem Jz (r:Bool) (hh:ll=some r):aP .clean tab oz FU Tryz.f9 none []=some (.clean (.bool r),none):=by
 refine ax rfl Tryz.ntmps9 Tryz.results9 ?_
 unfold ll at hh
 have i1:=kM ([]) ([ByteArray.mk #[97],ByteArray.mk #[98],ByteArray.mk #[99]]) ([30,20,10]) ([7,8,9])
 simp only[aN,bZ,List.length_cons,List.length_nil,Nat.zero_add,Nat.reduceAdd,List.length_set]at i1
 obtain⟨r2,hr2,hh⟩:=ae hh
 try simp only[ba,seval,-Int.reduceToNat,i1,hr2]
 obtain⟨o3,ho3,hh⟩:=ae hh
 refine bW 0 (fun s t H e=>match s with|s37j1=>∃v1j1:Nat,t 1=.ptr 1 v1j1 0∧t 3=.sl false false r2.2.2.1.length (ab (eI .i64) r2.2.2.1)∧t 37=.bool s37j1∧H 1=some ⟨v1j1,24,[.sl false false r2.1.ag.length (ab al r2.1.ag)],false,false,false⟩) (fun s=>s=o3) ?_ ?_
 ·rintro s37j1 t H e ⟨v1j1,Zj1⟩ rfl
  try dsimp only at hh
  try simp only[ba,seval,-Int.reduceToNat,i1,hr2,Zj1]
  refine sp ak hh (fun _ hh =>?_) (fun _ hh =>?_)
  ·cases hh
   try simp only[ba,seval,-Int.reduceToNat,i1,hr2,Zj1]
  ·obtain⟨r5,hr5,hh⟩:=ae hh
   obtain⟨r6,hr6,hh⟩:=ae hh
   have i7:=lr r2.1.ag ([1]) 20 ([(aB.mk 1 r5)]) ([])
   simp only[aN,bZ,List.length_cons,List.length_nil,Nat.zero_add,Nat.reduceAdd,List.length_set]at i7
   obtain⟨r8,hr8,hh⟩:=ae hh
   try simp only[ba,seval,-Int.reduceToNat,i1,hr2,Zj1,hr5,hr6,i7,hr8]
   obtain⟨o9,ho9,hh⟩:=ae hh
   refine bW 0 (fun s t H e=>match s with|s7j2=>∃v1j2:Nat,∃v5j2:Nat,∃v6j2:Nat,t 1=.ptr 1 v1j2 0∧t 3=.sl false false r2.2.2.1.length (ab (eI .i64) r2.2.2.1)∧t 5=.ptr 5 v5j2 0∧t 6=.ptr 6 v6j2 0∧t 7=.bool s7j2∧H 1=some ⟨v1j2,24,[.sl false false r2.1.ag.length (ab al r2.1.ag)],false,false,false⟩∧H 5=some ⟨v5j2,55,[.int .i64 1,.int .i64 r5.bn.cu.ah,.sl false false r5.bn.cu.aa.length (ab (eI .i64) r5.bn.cu.aa),.int .i64 r5.bn.ct.ah,.sl false false r5.bn.ct.aa.length (ab (eI .i64) r5.bn.ct.aa),.int .i64 r5.aM.cu.ah,.sl false false r5.aM.cu.aa.length (ab (eI .i64) r5.aM.cu.aa),.int .i64 r5.aM.ct.ah,.sl false false r5.aM.ct.aa.length (ab (eI .i64) r5.aM.ct.aa)],false,false,false⟩∧H 6=some ⟨v6j2,55,[.int .i64 1,.int .i64 r6.bn.cu.ah,.sl false false r6.bn.cu.aa.length (ab (eI .i64) r6.bn.cu.aa),.int .i64 r6.bn.ct.ah,.sl false false r6.bn.ct.aa.length (ab (eI .i64) r6.bn.ct.aa),.int .i64 r6.aM.cu.ah,.sl false false r6.aM.cu.aa.length (ab (eI .i64) r6.aM.cu.aa),.int .i64 r6.aM.ct.ah,.sl false false r6.aM.ct.aa.length (ab (eI .i64) r6.aM.ct.aa)],false,false,false⟩) (fun s=>s=o9) ?_ ?_
   ·rintro s7j2 t H e ⟨v1j2,v5j2,v6j2,Zj2⟩ rfl
    try dsimp only at hh
    have i10:=lr r2.1.ag ([1]) 20 ([(aB.mk 1 r5),(aB.mk 1 r6)]) ([(bg.mk 1 2)])
    simp only[aN,bZ,List.length_cons,List.length_nil,Nat.zero_add,Nat.reduceAdd,List.length_set]at i10
    obtain⟨r11,hr11,hh⟩:=ae hh
    have i12:=fh r2.1.ag 4 60 24 ([1,1]) ([]) ([])
    simp only[aN,bZ,List.length_cons,List.length_nil,Nat.zero_add,Nat.reduceAdd,List.length_set]at i12
    obtain⟨r13,hr13,hh⟩:=ae hh
    have i14:=ma ([2,0])
    simp only[aN,bZ,List.length_cons,List.length_nil,Nat.zero_add,Nat.reduceAdd,List.length_set]at i14
    obtain⟨r15,hr15,hh⟩:=ae hh
    obtain⟨r16,hr16,hh⟩:=ae hh
    try simp only[ba,seval,-Int.reduceToNat,i1,hr2,hr5,hr6,i7,hr8,Zj2,i10,hr11,i12,hr13,i14,hr15,hr16]
    refine cj (by kernel_rfl) ?_
    have i17:=pj r16.1.ag ([r16.2.1]) ([[2,0]]) ([5]) r2.2.2.1 2
    simp only[aN,bZ,List.length_cons,List.length_nil,Nat.zero_add,Nat.reduceAdd,List.length_set]at i17
    obtain⟨r18,hr18,hh⟩:=ae hh
    try simp only[ba,seval,-Int.reduceToNat,i1,hr2,hr5,hr6,i7,hr8,Zj2,i10,hr11,i12,hr13,i14,hr15,hr16,i17,hr18]
    refine sp bB hh (fun _ hh =>?_) (fun _ hh =>?_)
    ·try simp only[ba,seval,-Int.reduceToNat,i1,hr2,hr5,hr6,i7,hr8,Zj2,i10,hr11,i12,hr13,i14,hr15,hr16,i17,hr18]
     refine sp bB hh (fun _ hh =>?_) (fun _ hh =>?_)
     ·try simp only[ba,seval,-Int.reduceToNat,i1,hr2,hr5,hr6,i7,hr8,Zj2,i10,hr11,i12,hr13,i14,hr15,hr16,i17,hr18]
      refine sp bB hh (fun _ hh =>?_) (fun _ hh =>?_)
      ·try simp only[ba,seval,-Int.reduceToNat,i1,hr2,hr5,hr6,i7,hr8,Zj2,i10,hr11,i12,hr13,i14,hr15,hr16,i17,hr18]
       refine sp bB hh (fun _ hh =>?_) (fun _ hh =>?_)
       ·try simp only[ba,seval,-Int.reduceToNat,i1,hr2,hr5,hr6,i7,hr8,Zj2,i10,hr11,i12,hr13,i14,hr15,hr16,i17,hr18]
        refine sp bB hh (fun _ hh =>?_) (fun _ hh =>?_)
        ·have i24:=kK r18.1 ([2,0])
         simp only[aN,bZ,List.length_cons,List.length_nil,Nat.zero_add,Nat.reduceAdd,List.length_set]at i24
         obtain⟨r25,hr25,hh⟩:=ae hh
         cases hh
         try simp only[ba,seval,-Int.reduceToNat,i1,hr2,hr5,hr6,i7,hr8,Zj2,i10,hr11,i12,hr13,i14,hr15,hr16,i17,hr18,i24,hr25]
        ·cases hh
         try simp only[ba,seval,-Int.reduceToNat,i1,hr2,hr5,hr6,i7,hr8,Zj2,i10,hr11,i12,hr13,i14,hr15,hr16,i17,hr18]
       ·cases hh
        try simp only[ba,seval,-Int.reduceToNat,i1,hr2,hr5,hr6,i7,hr8,Zj2,i10,hr11,i12,hr13,i14,hr15,hr16,i17,hr18]
      ·cases hh
       try simp only[ba,seval,-Int.reduceToNat,i1,hr2,hr5,hr6,i7,hr8,Zj2,i10,hr11,i12,hr13,i14,hr15,hr16,i17,hr18]
     ·cases hh
      try simp only[ba,seval,-Int.reduceToNat,i1,hr2,hr5,hr6,i7,hr8,Zj2,i10,hr11,i12,hr13,i14,hr15,hr16,i17,hr18]
    ·cases hh
     try simp only[ba,seval,-Int.reduceToNat,i1,hr2,hr5,hr6,i7,hr8,Zj2,i10,hr11,i12,hr13,i14,hr15,hr16,i17,hr18]
   ·clear hh
    have hh:=ho9
    try simp only[ba,seval,-Int.reduceToNat,i1,hr2,Zj1,hr5,hr6,i7,hr8]
    refine sp bB hh (fun _ hh =>?_) (fun _ hh =>?_)
    ·have i27:=lr r2.1.ag ([1,2]) 20 ([]) ([(bg.mk 2 0)])
     simp only[aN,bZ,List.length_cons,List.length_nil,Nat.zero_add,Nat.reduceAdd,List.length_set]at i27
     obtain⟨r28,hr28,hh⟩:=ae hh
     try simp only[ba,seval,-Int.reduceToNat,i1,hr2,Zj1,hr5,hr6,i7,hr8,i27,hr28]
     refine sp bB hh (fun _ hh =>?_) (fun _ hh =>?_)
     ·have i30:=lr r2.1.ag ([1]) 21 ([]) ([(bg.mk 1 1)])
      simp only[aN,bZ,List.length_cons,List.length_nil,Nat.zero_add,Nat.reduceAdd,List.length_set]at i30
      obtain⟨r31,hr31,hh⟩:=ae hh
      cases hh
      try simp only[ba,seval,-Int.reduceToNat,i1,hr2,Zj1,hr5,hr6,i7,hr8,i27,hr28,i30,hr31]
      rw[an]
      refine⟨_,rfl,?_⟩
      refine⟨v1j1,e,e+1,?_,?_,?_,?_,?_,?_,?_,?_⟩
      all_goals first|rfl|(simp only[ba,seval,-Int.reduceToNat,i1,hr2,Zj1,hr5,hr6,i7,hr8,i27,hr28,i30,hr31]<;>rfl)
     ·cases hh
      try simp only[ba,seval,-Int.reduceToNat,i1,hr2,Zj1,hr5,hr6,i7,hr8,i27,hr28]
      rw[an]
      refine⟨_,rfl,?_⟩
      refine⟨v1j1,e,e+1,?_,?_,?_,?_,?_,?_,?_,?_⟩
      all_goals first|rfl|(simp only[ba,seval,-Int.reduceToNat,i1,hr2,Zj1,hr5,hr6,i7,hr8,i27,hr28]<;>rfl)
    ·cases hh
     try simp only[ba,seval,-Int.reduceToNat,i1,hr2,Zj1,hr5,hr6,i7,hr8]
     rw[an]
     refine⟨_,rfl,?_⟩
     refine⟨v1j1,e,e+1,?_,?_,?_,?_,?_,?_,?_,?_⟩
     all_goals first|rfl|(simp only[ba,seval,-Int.reduceToNat,i1,hr2,Zj1,hr5,hr6,i7,hr8]<;>rfl)
 ·clear hh
  have hh:=ho3
  try simp only[ba,seval,-Int.reduceToNat,i1,hr2]
  refine sp aX hh (fun _ hh =>?_) (fun _ hh =>?_)
  ·cases hh
   try simp only[ba,seval,-Int.reduceToNat,i1,hr2]
   rw[an]
   refine⟨_,rfl,?_⟩
   refine⟨1,?_,?_,?_,?_⟩
   all_goals first|rfl|(simp only[ba,seval,-Int.reduceToNat,i1,hr2]<;>rfl)
  ·try simp only[ba,seval,-Int.reduceToNat,i1,hr2]
   refine sp aX hh (fun _ hh =>?_) (fun _ hh =>?_)
   ·cases hh
    try simp only[ba,seval,-Int.reduceToNat,i1,hr2]
    rw[an]
    refine⟨_,rfl,?_⟩
    refine⟨1,?_,?_,?_,?_⟩
    all_goals first|rfl|(simp only[ba,seval,-Int.reduceToNat,i1,hr2]<;>rfl)
   ·have i34:=kK r2.2.2.1 ([0,1,2])
    simp only[aN,bZ,List.length_cons,List.length_nil,Nat.zero_add,Nat.reduceAdd,List.length_set]at i34
    obtain⟨r35,hr35,hh⟩:=ae hh
    cases hh
    try simp only[ba,seval,-Int.reduceToNat,i1,hr2,i34,hr35]
    rw[an]
    refine⟨_,rfl,?_⟩
    refine⟨1,?_,?_,?_,?_⟩
    all_goals first|rfl|(simp only[ba,seval,-Int.reduceToNat,i1,hr2,i34,hr35]<;>rfl)
theorem GV:bM Tryz.prog 9 sd:=bM.of (mode := .clean) tok Gl mixed Tryz.func9 (by kernel_rfl) ⟨by kernel_rfl,by kernel_rfl⟩ (fun _=>Nat.le_of_ble_eq_true (by kernel_rfl)) (fun x r h=>Jz  r h)
noncomputable def xz:=eN (dU (dm dQ) (dR (aI .i64))) (fun x:aw×Int=>q8 x.1 x.2) (fun r:Bool =>.clean (.bool r))
theorem Fs (p0_0:(List aj)) (p1:Int):xz none [.agg [.sl false false p0_0.length (ab al p0_0)],.int .i64 p1]=(q8 (aw.mk p0_0) p1).map fun r:Bool=>(.clean (.bool r),none):=aJ _ _ _ ((aw.mk p0_0),p1)
theorem Py (p0:aw) (p1:Int) (r:Bool) (hh:q8 p0 p1=some r):aP .clean tab aV FU Tryz.f10 none [.agg [.sl false false p0.ag.length (ab al p0.ag)],.int .i64 p1]=some (.clean (.bool r),none):=by
 refine ax rfl Tryz.ntmps10 Tryz.results10 ?_
 unfold q8 at hh
 try simp only[w,seval,-Int.reduceToNat]
 obtain⟨o6,ho6,hh⟩:=ae hh
 refine az (fun s t H e=>match s with|s5a=>∃v2a:Nat,t 1=.int .i64 p1∧t 2=.ptr 2 v2a 0∧t 5=.int .i64 s5a∧H 2=some ⟨v2a,24,[.sl false false p0.ag.length (ab al p0.ag)],false,false,false⟩) (fun o x t H e=>match o with|(.inl _)=>x=.exit 0∧∃v2ax:Nat,t 1=.int .i64 p1∧t 2=.ptr 2 v2ax 0∧H 2=some ⟨v2ax,24,[.sl false false p0.ag.length (ab al p0.ag)],false,false,false⟩|(.inr r)=>x=.ret∧gT .clean tab none [.tmp 4] ⟨t,H,e⟩=some (.clean (.bool r),none)) ho6 ?_ ?_ ?_
 ·refine⟨0,?_,?_,?_,?_⟩
  all_goals first|rfl|(simp only[w,seval,-Int.reduceToNat]<;>rfl)
 ·rintro s5a t H e ⟨v2a,Za⟩ c hh
  simp only[q9]at hh
  try simp only[w,seval,-Int.reduceToNat,Za]
  obtain⟨o7,ho7,hh⟩:=ae hh
  refine bW 0 (fun s t H e=>match s with|s15j3=>∃v2j3:Nat,t 1=.int .i64 p1∧t 2=.ptr 2 v2j3 0∧t 5=.int .i64 s5a∧t 15=.bool s15j3∧H 2=some ⟨v2j3,24,[.sl false false p0.ag.length (ab al p0.ag)],false,false,false⟩) (fun s=>s=o7) ?_ ?_
  ·rintro s15j3 t H e ⟨v2j3,Zj3⟩ rfl
   try dsimp only at hh
   try simp only[w,seval,-Int.reduceToNat,Zj3]
   refine sp ak hh (fun _ hh =>?_) (fun _ hh =>?_)
   ·obtain⟨x9,hx9,hh⟩:=ae hh
    have ax9:=bH al hx9
    simp only[bZ]at ax9
    try simp only[w,seval,-Int.reduceToNat,Zj3,ax9]
    refine sp ak hh (fun _ hh =>?_) (fun _ hh =>?_)
    ·cases hh
     try simp only[w,seval,-Int.reduceToNat,Zj3,ax9]
     refine yW ⟨rfl,?_⟩
     try simp only[w,seval,-Int.reduceToNat,Zj3,ax9]
    ·cases hh
     try simp only[w,seval,-Int.reduceToNat,Zj3,ax9]
     refine jg ?_
     refine⟨v2j3,?_,?_,?_,?_⟩
     all_goals first|rfl|(simp only[w,seval,-Int.reduceToNat,Zj3,ax9]<;>rfl)
   ·cases hh
    try simp only[w,seval,-Int.reduceToNat,Zj3]
    refine kX ?_
    refine⟨rfl,⟨v2j3,?_,?_,?_⟩⟩
    all_goals first|rfl|(simp only[w,seval,-Int.reduceToNat,Zj3]<;>rfl)
  ·clear hh
   have hh:=ho7
   try simp only[w,seval,-Int.reduceToNat,Za]
   refine sp bB hh (fun _ hh =>?_) (fun _ hh =>?_)
   ·cases hh
    try simp only[w,seval,-Int.reduceToNat,Za]
    rw[an]
    refine⟨_,rfl,?_⟩
    refine⟨v2a,?_,?_,?_,?_,?_⟩
    all_goals first|rfl|(simp only[w,seval,-Int.reduceToNat,Za]<;>rfl)
   ·cases hh
    try simp only[w,seval,-Int.reduceToNat,Za]
    rw[an]
    refine⟨_,rfl,?_⟩
    refine⟨v2a,?_,?_,?_,?_,?_⟩
    all_goals first|rfl|(simp only[w,seval,-Int.reduceToNat,Za]<;>rfl)
 ·rintro x t H e hx
  rcases o6 with _|ra
  ·dsimp only at hx hh
   obtain⟨rfl,⟨v2ax,Zax⟩⟩:=hx
   cases hh
   try simp only[w,seval,-Int.reduceToNat,Zax]
  ·dsimp only at hx hh
   obtain⟨rfl,hE⟩:=hx
   cases hh
   try simp only[bq,bh,bF,dw,du]
   exact hE
theorem L9:bM Tryz.prog 10 xz:=bM.of (mode := .clean) tok bR.none mixed Tryz.func10 (by kernel_rfl) ⟨by kernel_rfl,by kernel_rfl⟩ (fun _=>Nat.le_of_ble_eq_true (by kernel_rfl)) (fun x r h=>Py x.1 x.2 r h)
noncomputable def xw:=eN (dU (dm lj) (dR (aI .i64))) (fun x:aT×Int=>oQ x.1 x.2) (fun r:Bool =>.clean (.bool r))
theorem Fo (p0_0:Int) (p0_1:(List Int)) (p0_2:Int) (p0_3:(List Int)) (p1:Int):xw none [.agg [.int .i64 p0_0,.sl false false p0_1.length (ab (eI .i64) p0_1),.int .i64 p0_2,.sl false false p0_3.length (ab (eI .i64) p0_3)],.int .i64 p1]=(oQ (aT.mk (ay.mk p0_0 p0_1) (ay.mk p0_2 p0_3)) p1).map fun r:Bool=>(.clean (.bool r),none):=aJ _ _ _ ((aT.mk (ay.mk p0_0 p0_1) (ay.mk p0_2 p0_3)),p1)
theorem Pu (p0:aT) (p1:Int) (r:Bool) (hh:oQ p0 p1=some r):aP .clean tab aV FU Tryz.f56 none [.agg [.int .i64 p0.cu.ah,.sl false false p0.cu.aa.length (ab (eI .i64) p0.cu.aa),.int .i64 p0.ct.ah,.sl false false p0.ct.aa.length (ab (eI .i64) p0.ct.aa)],.int .i64 p1]=some (.clean (.bool r),none):=by
 refine ax rfl Tryz.ntmps56 Tryz.results56 ?_
 unfold oQ at hh
 try simp only[w,seval,-Int.reduceToNat]
 refine sp bB hh (fun _ hh =>?_) (fun _ hh =>?_)
 ·cases hh
  try simp only[w,seval,-Int.reduceToNat]
 ·cases hh
  try simp only[w,seval,-Int.reduceToNat]
theorem L6:bM Tryz.prog 56 xw:=bM.of (mode := .clean) tok bR.none mixed Tryz.func56 (by kernel_rfl) ⟨by kernel_rfl,by kernel_rfl⟩ (fun _=>Nat.le_of_ble_eq_true (by kernel_rfl)) (fun x r h=>Pu x.1 x.2 r h)
noncomputable def xy:=eN (dU (dm eZ) (dR (aI .i64))) (fun x:cr×Int=>qZ x.1 x.2) (fun r:Bool =>.clean (.bool r))
theorem Fq (p0_0:Int) (p0_1:(List Int)) (p0_2:Int) (p0_3:(List Int)) (p0_4:Int) (p0_5:(List Int)) (p0_6:Int) (p0_7:(List Int)) (p1:Int):xy none [.agg [.int .i64 p0_0,.sl false false p0_1.length (ab (eI .i64) p0_1),.int .i64 p0_2,.sl false false p0_3.length (ab (eI .i64) p0_3),.int .i64 p0_4,.sl false false p0_5.length (ab (eI .i64) p0_5),.int .i64 p0_6,.sl false false p0_7.length (ab (eI .i64) p0_7)],.int .i64 p1]=(qZ (cr.mk (aT.mk (ay.mk p0_0 p0_1) (ay.mk p0_2 p0_3)) (aT.mk (ay.mk p0_4 p0_5) (ay.mk p0_6 p0_7))) p1).map fun r:Bool=>(.clean (.bool r),none):=aJ _ _ _ ((cr.mk (aT.mk (ay.mk p0_0 p0_1) (ay.mk p0_2 p0_3)) (aT.mk (ay.mk p0_4 p0_5) (ay.mk p0_6 p0_7))),p1)
noncomputable def ub:Env:=(Am.ext aV 56 false xw)
theorem Lu:bR Tryz.prog ub:=(bR.none.add L6 false)
theorem yr:type_of% (ai @w<|ai @Fo<|@ub.eq_1):=⟨@w,@Fo,@ub.eq_1⟩
theorem Px (p0:cr) (p1:Int) (r:Bool) (hh:qZ p0 p1=some r):aP .clean tab ub FU Tryz.f29 none [.agg [.int .i64 p0.bn.cu.ah,.sl false false p0.bn.cu.aa.length (ab (eI .i64) p0.bn.cu.aa),.int .i64 p0.bn.ct.ah,.sl false false p0.bn.ct.aa.length (ab (eI .i64) p0.bn.ct.aa),.int .i64 p0.aM.cu.ah,.sl false false p0.aM.cu.aa.length (ab (eI .i64) p0.aM.cu.aa),.int .i64 p0.aM.ct.ah,.sl false false p0.aM.ct.aa.length (ab (eI .i64) p0.aM.ct.aa)],.int .i64 p1]=some (.clean (.bool r),none):=by
 refine ax rfl Tryz.ntmps29 Tryz.results29 ?_
 unfold qZ at hh
 obtain⟨r1,hr1,hh⟩:=ae hh
 try simp only[yr,seval,-Int.reduceToNat,hr1]
 refine sp bB hh (fun _ hh =>?_) (fun _ hh =>?_)
 ·obtain⟨r3,hr3,hh⟩:=ae hh
  cases hh
  try simp only[yr,seval,-Int.reduceToNat,hr1,hr3]
 ·cases hh
  try simp only[yr,seval,-Int.reduceToNat,hr1]
theorem L8:bM Tryz.prog 29 xy:=bM.of (mode := .clean) tok Lu mixed Tryz.func29 (by kernel_rfl) ⟨by kernel_rfl,by kernel_rfl⟩ (fun _=>Nat.le_of_ble_eq_true (by kernel_rfl)) (fun x r h=>Px x.1 x.2 r h)
noncomputable def xA:=eN (dU (iI fF) (dR (aI .i64))) (fun x:(List ByteArray)×Int=>re x.1 x.2) (fun r:Bool =>.clean (.bool r))
theorem Ft (p0:(List ByteArray)) (p1:Int):xA none [.sl false false p0.length (ab fF p0),.int .i64 p1]=(re p0 p1).map fun r:Bool=>(.clean (.bool r),none):=aJ _ _ _ (p0,p1)
theorem Pz (p0:(List ByteArray)) (p1:Int) (r:Bool) (hh:re p0 p1=some r):aP .clean tab aV FU Tryz.f54 none [.sl false false p0.length (ab fF p0),.int .i64 p1]=some (.clean (.bool r),none):=by
 refine ax rfl Tryz.ntmps54 Tryz.results54 ?_
 unfold re at hh
 try simp only[w,seval,-Int.reduceToNat]
 obtain⟨o8,ho8,hh⟩:=ae hh
 refine az (fun s t H e=>match s with|s5a=>t 0=.sl false false p0.length (ab fF p0)∧t 1=.int .i64 p1∧t 5=.int .i64 s5a) (fun o x t H e=>match o with|(.inl _)=>x=.exit 0∧t 0=.sl false false p0.length (ab fF p0)∧t 1=.int .i64 p1|(.inr r)=>x=.ret∧gT .clean tab none [.tmp 4] ⟨t,H,e⟩=some (.clean (.bool r),none)) ho8 ?_ ?_ ?_
 ·refine⟨?_,?_,?_⟩
  all_goals first|rfl|(simp only[w,seval,-Int.reduceToNat]<;>rfl)
 ·rintro s5a t H e Za c hh
  simp only[rf]at hh
  try simp only[w,seval,-Int.reduceToNat,Za]
  obtain⟨o9,ho9,hh⟩:=ae hh
  refine bW 0 (fun s t H e=>match s with|s14j3=>t 0=.sl false false p0.length (ab fF p0)∧t 1=.int .i64 p1∧t 5=.int .i64 s5a∧t 14=.bool s14j3) (fun s=>s=o9) ?_ ?_
  ·rintro s14j3 t H e Zj3 rfl
   try dsimp only at hh
   try simp only[w,seval,-Int.reduceToNat,Zj3]
   refine sp ak hh (fun _ hh =>?_) (fun _ hh =>?_)
   ·obtain⟨x11,hx11,hh⟩:=ae hh
    have ax11:=bH fF hx11
    simp only[bZ]at ax11
    try simp only[w,seval,-Int.reduceToNat,Zj3,ax11]
    refine sp bB hh (fun _ hh =>?_) (fun _ hh =>?_)
    ·have ax11:=bH fF hx11
     simp only[bZ]at ax11
     try simp only[w,seval,-Int.reduceToNat,Zj3,ax11,ax11]
     refine sp aX hh (fun _ hh =>?_) (fun _ hh =>?_)
     ·cases hh
      try simp only[w,seval,-Int.reduceToNat,Zj3,ax11,ax11]
      refine yW ⟨rfl,?_⟩
      try simp only[w,seval,-Int.reduceToNat,Zj3,ax11,ax11]
     ·have ax11:=bH fF hx11
      simp only[bZ]at ax11
      try simp only[w,seval,-Int.reduceToNat,Zj3,ax11,ax11,ax11]
      refine sp ak hh (fun _ hh =>?_) (fun _ hh =>?_)
      ·cases hh
       try simp only[w,seval,-Int.reduceToNat,Zj3,ax11,ax11,ax11]
       refine yW ⟨rfl,?_⟩
       try simp only[w,seval,-Int.reduceToNat,Zj3,ax11,ax11,ax11]
      ·cases hh
       try simp only[w,seval,-Int.reduceToNat,Zj3,ax11,ax11,ax11]
       refine jg ?_
       refine⟨?_,?_,?_⟩
       all_goals first|rfl|(simp only[w,seval,-Int.reduceToNat,Zj3,ax11,ax11,ax11]<;>rfl)
    ·cases hh
     try simp only[w,seval,-Int.reduceToNat,Zj3,ax11]
     refine jg ?_
     refine⟨?_,?_,?_⟩
     all_goals first|rfl|(simp only[w,seval,-Int.reduceToNat,Zj3,ax11]<;>rfl)
   ·cases hh
    try simp only[w,seval,-Int.reduceToNat,Zj3]
    refine kX ?_
    refine⟨rfl,⟨?_,?_⟩⟩
    all_goals first|rfl|(simp only[w,seval,-Int.reduceToNat,Zj3]<;>rfl)
  ·clear hh
   have hh:=ho9
   try simp only[w,seval,-Int.reduceToNat,Za]
   refine sp bB hh (fun _ hh =>?_) (fun _ hh =>?_)
   ·cases hh
    try simp only[w,seval,-Int.reduceToNat,Za]
    rw[an]
    refine⟨_,rfl,?_⟩
    refine⟨?_,?_,?_,?_⟩
    all_goals first|rfl|(simp only[w,seval,-Int.reduceToNat,Za]<;>rfl)
   ·cases hh
    try simp only[w,seval,-Int.reduceToNat,Za]
    rw[an]
    refine⟨_,rfl,?_⟩
    refine⟨?_,?_,?_,?_⟩
    all_goals first|rfl|(simp only[w,seval,-Int.reduceToNat,Za]<;>rfl)
 ·rintro x t H e hx
  rcases o8 with _|ra
  ·dsimp only at hx hh
   obtain⟨rfl,Zax⟩:=hx
   cases hh
   try simp only[w,seval,-Int.reduceToNat,Zax]
  ·dsimp only at hx hh
   obtain⟨rfl,hE⟩:=hx
   cases hh
   try simp only[bq,bh,bF,dw,du]
   exact hE
theorem Ma:bM Tryz.prog 54 xA:=bM.of (mode := .clean) tok bR.none mixed Tryz.func54 (by kernel_rfl) ⟨by kernel_rfl,by kernel_rfl⟩ (fun _=>Nat.le_of_ble_eq_true (by kernel_rfl)) (fun x r h=>Pz x.1 x.2 r h)
noncomputable def xr:=eN (dR (dm sG)) (fun x:eP=>qL x) (fun r:Bool =>.clean (.bool r))
theorem Fj (p0_0:(List ByteArray)) (p0_1:(List Int)) (p0_2:(List Int)):xr none [.agg [.sl false false p0_0.length (ab fF p0_0),.sl false false p0_1.length (ab (eI .i64) p0_1),.sl false false p0_2.length (ab (eI .i64) p0_2)]]=(qL (eP.mk p0_0 p0_1 p0_2)).map fun r:Bool=>(.clean (.bool r),none):=aJ _ _ _ ((eP.mk p0_0 p0_1 p0_2))
noncomputable def tV:Env:=(Am.ext aV 54 false xA)
theorem Lo:bR Tryz.prog tV:=(bR.none.add Ma false)
theorem pP:type_of% (ai @w<|ai @Ft<|@tV.eq_1):=⟨@w,@Ft,@tV.eq_1⟩
theorem Pq (p0:eP) (r:Bool) (hh:qL p0=some r):aP .clean tab tV FU Tryz.f26 none [.agg [.sl false false p0.aZ.length (ab fF p0.aZ),.sl false false p0.aQ.length (ab (eI .i64) p0.aQ),.sl false false p0.bt.length (ab (eI .i64) p0.bt)]]=some (.clean (.bool r),none):=by
 refine ax rfl Tryz.ntmps26 Tryz.results26 ?_
 unfold qL at hh
 obtain⟨r1,hr1,hh⟩:=ae hh
 try simp only[pP,seval,-Int.reduceToNat,hr1]
 refine sp bB hh (fun _ hh =>?_) (fun _ hh =>?_)
 ·try simp only[pP,seval,-Int.reduceToNat,hr1]
  refine sp bB hh (fun _ hh =>?_) (fun _ hh =>?_)
  ·cases hh
   try simp only[pP,seval,-Int.reduceToNat,hr1]
  ·cases hh
   try simp only[pP,seval,-Int.reduceToNat,hr1]
 ·cases hh
  try simp only[pP,seval,-Int.reduceToNat,hr1]
theorem L2:bM Tryz.prog 26 xr:=bM.of (mode := .clean) tok Lo mixed Tryz.func26 (by kernel_rfl) ⟨by kernel_rfl,by kernel_rfl⟩ (fun _=>Nat.le_of_ble_eq_true (by kernel_rfl)) (fun x r h=>Pq x r h)
noncomputable def pV:=eN (dU (dm dQ) (dR (dm sG))) (fun x:aw×eP=>jO x.1 x.2) (fun r:aw×Int×(List Int)×Bool =>.clean (.tup [.agg [.sl false false r.1.ag.length (ab al r.1.ag)],.int .i64 r.2.1,.sl false false r.2.2.1.length (ab (eI .i64) r.2.2.1),.bool r.2.2.2]))
theorem wV (p0_0:(List aj)) (p1_0:(List ByteArray)) (p1_1:(List Int)) (p1_2:(List Int)):pV none [.agg [.sl false false p0_0.length (ab al p0_0)],.agg [.sl false false p1_0.length (ab fF p1_0),.sl false false p1_1.length (ab (eI .i64) p1_1),.sl false false p1_2.length (ab (eI .i64) p1_2)]]=(jO (aw.mk p0_0) (eP.mk p1_0 p1_1 p1_2)).map fun r:aw×Int×(List Int)×Bool=>(.clean (.tup [.agg [.sl false false r.1.ag.length (ab al r.1.ag)],.int .i64 r.2.1,.sl false false r.2.2.1.length (ab (eI .i64) r.2.2.1),.bool r.2.2.2]),none):=aJ _ _ _ ((aw.mk p0_0),(eP.mk p1_0 p1_1 p1_2))
noncomputable def mP:Env:=(Am.ext aV 37 false mH)
theorem C4:bR Tryz.prog mP:=(bR.none.add uT false)
theorem ee:type_of% (ai @w<|ai @kM<|@mP.eq_1):=⟨@w,@kM,@mP.eq_1⟩
theorem GB (p0:aw) (p1:eP) (r:aw×Int×(List Int)×Bool) (hh:jO p0 p1=some r):aP .clean tab mP FU Tryz.f27 none [.agg [.sl false false p0.ag.length (ab al p0.ag)],.agg [.sl false false p1.aZ.length (ab fF p1.aZ),.sl false false p1.aQ.length (ab (eI .i64) p1.aQ),.sl false false p1.bt.length (ab (eI .i64) p1.bt)]]=some (.clean (.tup [.agg [.sl false false r.1.ag.length (ab al r.1.ag)],.int .i64 r.2.1,.sl false false r.2.2.1.length (ab (eI .i64) r.2.2.1),.bool r.2.2.2]),none):=by
 refine ax rfl Tryz.ntmps27 Tryz.results27 ?_
 unfold jO at hh
 obtain⟨r1,hr1,hh⟩:=ae hh
 try simp only[ee,seval,-Int.reduceToNat,hr1]
 refine sp oV hh (fun _ hh =>?_) (fun _ hh =>?_)
 ·try simp only[ee,seval,-Int.reduceToNat,hr1]
  refine sp oV hh (fun _ hh =>?_) (fun _ hh =>?_)
  ·try simp only[ee,seval,-Int.reduceToNat,hr1]
   refine sp oV hh (fun _ hh =>?_) (fun _ hh =>?_)
   ·try simp only[ee,seval,-Int.reduceToNat,hr1]
    refine cj (by kernel_rfl) ?_
    cases hh
    try simp only[ee,seval,-Int.reduceToNat,hr1]
   ·try simp only[ee,seval,-Int.reduceToNat,hr1]
    refine cj (by kernel_rfl) ?_
    cases hh
    try simp only[ee,seval,-Int.reduceToNat,hr1]
  ·try simp only[ee,seval,-Int.reduceToNat,hr1]
   refine cj (by kernel_rfl) ?_
   cases hh
   try simp only[ee,seval,-Int.reduceToNat,hr1]
 ·try simp only[ee,seval,-Int.reduceToNat,hr1]
  refine cj (by kernel_rfl) ?_
  cases hh
  try simp only[ee,seval,-Int.reduceToNat,hr1]
theorem Dw:bM Tryz.prog 27 pV:=bM.of (mode := .clean) tok C4 mixed Tryz.func27 (by kernel_rfl) ⟨by kernel_rfl,by kernel_rfl⟩ (fun _=>Nat.le_of_ble_eq_true (by kernel_rfl)) (fun x r h=>GB x.1 x.2 r h)
noncomputable def qd:=eN (dU (dm dQ) (dR (aI .i64))) (fun x:aw×Int=>jS x.1 x.2) (fun r:(List Bool) =>.clean (.sl false false r.length (ab gr r)))
theorem wY (p0_0:(List aj)) (p1:Int):qd none [.agg [.sl false false p0_0.length (ab al p0_0)],.int .i64 p1]=(jS (aw.mk p0_0) p1).map fun r:(List Bool)=>(.clean (.sl false false r.length (ab gr r)),none):=aJ _ _ _ ((aw.mk p0_0),p1)
noncomputable def mU:Env:=(Am.ext aV 123 false lG)
theorem C9:bR Tryz.prog mU:=(bR.none.add tj false)
theorem cY:type_of% (ai @w<|ai @lV<|@mU.eq_1):=⟨@w,@lV,@mU.eq_1⟩
theorem GI (p0:aw) (p1:Int) (r:(List Bool)) (hh:jS p0 p1=some r):aP .clean tab mU FU Tryz.f96 none [.agg [.sl false false p0.ag.length (ab al p0.ag)],.int .i64 p1]=some (.clean (.sl false false r.length (ab gr r)),none):=by
 refine ax rfl Tryz.ntmps96 Tryz.results96 ?_
 unfold jS at hh
 obtain⟨x1,hx1,hh⟩:=ae hh
 obtain⟨q2a,q2b,q2c,q2d,q2e⟩:=mk_one gr hx1
 simp only[bZ]at q2d
 obtain⟨x3,hx3,hh⟩:=ae hh
 have ax3:=bH gr hx3
 simp only[bZ]at ax3
 have p4:=jJ gr (x':=true) (fo:=0) (cs:=[.bool true]) hx3 rfl (Nat.le_of_ble_eq_true rfl)
 simp only[bZ,Nat.add_zero]at p4
 have up4:=p4
 simp only[putCells,List.length_cons,List.length_nil,Nat.zero_add,Nat.reduceAdd]at up4
 try simp only[cY,seval,-Int.reduceToNat,q2a,q2b,q2c,q2d,q2e,ax3,p4,up4]
 obtain⟨o18,ho18,hh⟩:=ae hh
 refine az (fun s t H e=>match s with|(s6a,l5a)=>∃v2a:Nat,∃v5a:Nat,t 2=.ptr 2 v2a 0∧t 5=.buf 5 v5a 1 0 (l5a).length∧t 6=.int .i64 s6a∧H 2=some ⟨v2a,24,[.sl false false p0.ag.length (ab al p0.ag)],false,false,false⟩∧H 5=some ⟨v5a,4,ab gr l5a,false,true,false⟩) (fun o x t H e=>match o with|l5ax=>x=.exit 0∧∃v5ax:Nat,t 5=.buf 5 v5ax 1 0 (l5ax).length∧H 5=some ⟨v5ax,4,ab gr l5ax,false,true,false⟩) ho18 ?_ ?_ ?_
 ·refine⟨0,1,?_,?_,?_,?_,?_⟩
  all_goals first|rfl|(simp only[cY,seval,-Int.reduceToNat,q2a,q2b,q2c,q2d,q2e,ax3,p4,up4]<;>rfl)
 ·rintro⟨s6a,l5a⟩ t H e ⟨v2a,v5a,Za⟩ c hh
  simp only[eL]at hh
  try simp only[cY,seval,-Int.reduceToNat,q2a,q2b,q2c,q2d,q2e,ax3,p4,up4,Za]
  refine sp ak hh (fun _ hh =>?_) (fun _ hh =>?_)
  ·obtain⟨x20,hx20,hh⟩:=ae hh
   have ax20:=bH al hx20
   simp only[bZ]at ax20
   obtain⟨r21,hr21,hh⟩:=ae hh
   try simp only[cY,seval,-Int.reduceToNat,q2a,q2b,q2c,q2d,q2e,ax3,p4,up4,Za,ax20,hr21]
   refine sp bB hh (fun _ hh =>?_) (fun _ hh =>?_)
   ·obtain⟨x23,hx23,hh⟩:=ae hh
    have ax23:=bH gr hx23
    simp only[bZ]at ax23
    try simp only[cY,seval,-Int.reduceToNat,q2a,q2b,q2c,q2d,q2e,ax3,p4,up4,Za,ax20,hr21,ax23]
    refine sp aX hh (fun _ hh =>?_) (fun _ hh =>?_)
    ·obtain⟨x25,hx25,hh⟩:=ae hh
     have ax25:=bH gr hx25
     simp only[bZ]at ax25
     have p26:=jJ gr (x':=true) (fo:=0) (cs:=[.bool true]) hx25 rfl (Nat.le_of_ble_eq_true rfl)
     simp only[bZ,Nat.add_zero]at p26
     have up26:=p26
     simp only[putCells,List.length_cons,List.length_nil,Nat.zero_add,Nat.reduceAdd]at up26
     cases hh
     try simp only[cY,seval,-Int.reduceToNat,q2a,q2b,q2c,q2d,q2e,ax3,p4,up4,Za,ax20,hr21,ax23,ax25,p26,up26]
     refine jg ?_
     refine⟨v2a,v5a,?_,?_,?_,?_,?_⟩
     all_goals first|rfl|(simp only[cY,seval,-Int.reduceToNat,q2a,q2b,q2c,q2d,q2e,ax3,p4,up4,Za,ax20,hr21,ax23,ax25,p26,up26]<;>rfl)
    ·obtain⟨x27,hx27,hh⟩:=ae hh
     have ax27:=bH gr hx27
     simp only[bZ]at ax27
     obtain⟨x28,hx28,hh⟩:=ae hh
     have ax28:=bH gr hx28
     simp only[bZ]at ax28
     have p29:=jJ gr (x':=x27) (fo:=0) (cs:=[.bool x27]) hx28 rfl (Nat.le_of_ble_eq_true rfl)
     simp only[bZ,Nat.add_zero]at p29
     have up29:=p29
     simp only[putCells,List.length_cons,List.length_nil,Nat.zero_add,Nat.reduceAdd]at up29
     cases hh
     try simp only[cY,seval,-Int.reduceToNat,q2a,q2b,q2c,q2d,q2e,ax3,p4,up4,Za,ax20,hr21,ax23,ax27,ax28,p29,up29]
     refine jg ?_
     refine⟨v2a,v5a,?_,?_,?_,?_,?_⟩
     all_goals first|rfl|(simp only[cY,seval,-Int.reduceToNat,q2a,q2b,q2c,q2d,q2e,ax3,p4,up4,Za,ax20,hr21,ax23,ax27,ax28,p29,up29]<;>rfl)
   ·obtain⟨x30,hx30,hh⟩:=ae hh
    have ax30:=bH gr hx30
    simp only[bZ]at ax30
    have p31:=jJ gr (x':=false) (fo:=0) (cs:=[.bool false]) hx30 rfl (Nat.le_of_ble_eq_true rfl)
    simp only[bZ,Nat.add_zero]at p31
    have up31:=p31
    simp only[putCells,List.length_cons,List.length_nil,Nat.zero_add,Nat.reduceAdd]at up31
    cases hh
    try simp only[cY,seval,-Int.reduceToNat,q2a,q2b,q2c,q2d,q2e,ax3,p4,up4,Za,ax20,hr21,ax30,p31,up31]
    refine jg ?_
    refine⟨v2a,v5a,?_,?_,?_,?_,?_⟩
    all_goals first|rfl|(simp only[cY,seval,-Int.reduceToNat,q2a,q2b,q2c,q2d,q2e,ax3,p4,up4,Za,ax20,hr21,ax30,p31,up31]<;>rfl)
  ·cases hh
   try simp only[cY,seval,-Int.reduceToNat,q2a,q2b,q2c,q2d,q2e,ax3,p4,up4,Za]
   refine kX ?_
   refine⟨rfl,⟨v5a,?_,?_⟩⟩
   all_goals first|rfl|(simp only[cY,seval,-Int.reduceToNat,q2a,q2b,q2c,q2d,q2e,ax3,p4,up4,Za]<;>rfl)
 ·rintro x t H e hx
  obtain⟨l5ax,rfl⟩:∃z,z=o18:=⟨_,rfl⟩
  dsimp only at hx hh
  obtain⟨rfl,⟨v5ax,Zax⟩⟩:=hx
  cases hh
  try simp only[cY,seval,-Int.reduceToNat,q2a,q2b,q2c,q2d,q2e,ax3,p4,up4,Zax]
theorem DA:bM Tryz.prog 96 qd:=bM.of (mode := .clean) tok C9 mixed Tryz.func96 (by kernel_rfl) ⟨by kernel_rfl,by kernel_rfl⟩ (fun _=>Nat.le_of_ble_eq_true (by kernel_rfl)) (fun x r h=>GI x.1 x.2 r h)
noncomputable def sj:=eN (dU (dm dQ) (dU (aI .i64) (dR (aI .i64)))) (fun x:aw×Int×Int=>ly x.1 x.2.1 x.2.2) (fun r:(List Int) =>.clean (.sl false false r.length (ab (eI .i64) r)))
theorem ze (p0_0:(List aj)) (p1:Int) (p2:Int):sj none [.agg [.sl false false p0_0.length (ab al p0_0)],.int .i64 p1,.int .i64 p2]=(ly (aw.mk p0_0) p1 p2).map fun r:(List Int)=>(.clean (.sl false false r.length (ab (eI .i64) r)),none):=aJ _ _ _ ((aw.mk p0_0),p1,p2)
noncomputable def oG:Env:=(Am.ext (Am.ext (Am.ext aV 39 false fc) 95 false p9) 96 false qd)
theorem Gt:bR Tryz.prog oG:=(((bR.none.add gx false).add y4 false).add DA false)
theorem bD:type_of% (ai @w<|ai @cO<|ai @qW<|ai @wY<|@oG.eq_1):=⟨@w,@cO,@qW,@wY,@oG.eq_1⟩
theorem JJ (p0:aw) (p1:Int) (p2:Int) (r:(List Int)) (hh:ly p0 p1 p2=some r):aP .clean tab oG FU Tryz.f55 none [.agg [.sl false false p0.ag.length (ab al p0.ag)],.int .i64 p1,.int .i64 p2]=some (.clean (.sl false false r.length (ab (eI .i64) r)),none):=by
 refine ax rfl Tryz.ntmps55 Tryz.results55 ?_
 unfold ly at hh
 obtain⟨r1,hr1,hh⟩:=ae hh
 try simp only[bD,seval,-Int.reduceToNat,hr1]
 obtain⟨o2,ho2,hh⟩:=ae hh
 refine bW 0 (fun s t H e=>match s with|s27j1=>∃v3j1:Nat,t 1=.int .i64 p1∧t 2=.int .i64 p2∧t 3=.ptr 3 v3j1 0∧t 27=.bool s27j1∧H 3=some ⟨v3j1,24,[.sl false false p0.ag.length (ab al p0.ag)],false,false,false⟩) (fun s=>s=o2) ?_ ?_
 ·rintro s27j1 t H e ⟨v3j1,Zj1⟩ rfl
  try dsimp only at hh
  try simp only[bD,seval,-Int.reduceToNat,hr1,Zj1]
  refine sp ak hh (fun _ hh =>?_) (fun _ hh =>?_)
  ·cases hh
   try simp only[bD,seval,-Int.reduceToNat,hr1,Zj1]
  ·obtain⟨r4,hr4,hh⟩:=ae hh
   obtain⟨x5,hx5,hh⟩:=ae hh
   have ax5:=bH gr hx5
   simp only[bZ]at ax5
   try simp only[bD,seval,-Int.reduceToNat,hr1,Zj1,hr4,ax5]
   refine sp ak hh (fun _ hh =>?_) (fun _ hh =>?_)
   ·cases hh
    try simp only[bD,seval,-Int.reduceToNat,hr1,Zj1,hr4,ax5]
   ·try simp only[bD,seval,-Int.reduceToNat,hr1,Zj1,hr4,ax5]
    obtain⟨o15,ho15,hh⟩:=ae hh
    refine az (fun s t H e=>match s with|(s9b,l8b)=>∃v3b:Nat,∃v8b:Nat,t 2=.int .i64 p2∧t 3=.ptr 3 v3b 0∧t 7=.sl false false r4.length (ab gr r4)∧t 8=.buf 8 v8b 1 0 (l8b).length∧t 9=.int .i64 s9b∧H 3=some ⟨v3b,24,[.sl false false p0.ag.length (ab al p0.ag)],false,false,false⟩∧H 8=some ⟨v8b,3,ab (eI .i64) l8b,false,true,false⟩) (fun o x t H e=>match o with|l8bx=>x=.exit 0∧∃v8bx:Nat,t 8=.buf 8 v8bx 1 0 (l8bx).length∧H 8=some ⟨v8bx,3,ab (eI .i64) l8bx,false,true,false⟩) ho15 ?_ ?_ ?_
    ·refine⟨v3j1,e+1+1,?_,?_,?_,?_,?_,?_,?_⟩
     all_goals first|rfl|(simp only[bD,seval,-Int.reduceToNat,hr1,Zj1,hr4,ax5]<;>rfl)
    ·rintro⟨s9b,l8b⟩ t H e ⟨v3b,v8b,Zb⟩ c hh
     simp only[fZ]at hh
     try simp only[bD,seval,-Int.reduceToNat,hr1,hr4,ax5,Zb]
     refine sp ak hh (fun _ hh =>?_) (fun _ hh =>?_)
     ·obtain⟨x17,hx17,hh⟩:=ae hh
      have ax17:=bH al hx17
      simp only[bZ]at ax17
      try simp only[bD,seval,-Int.reduceToNat,hr1,hr4,ax5,Zb,ax17]
      refine cj (by kernel_rfl) ?_
      obtain⟨x18,hx18,hh⟩:=ae hh
      have ax18:=bH gr hx18
      simp only[bZ]at ax18
      try simp only[bD,seval,-Int.reduceToNat,hr1,hr4,ax5,Zb,ax17,ax18]
      refine sp ak hh (fun _ hh =>?_) (fun _ hh =>?_)
      ·obtain⟨x20,hx20,hh⟩:=ae hh
       obtain⟨q21a,q21b,q21c,q21d⟩:=ey (eI .i64) hx20
       simp only[bZ]at q21b
       cases hh
       try simp only[bD,seval,-Int.reduceToNat,hr1,hr4,ax5,Zb,ax17,ax18,q21a,q21b,q21c,q21d]
       refine jg ?_
       refine⟨v3b,e+1+1+1+1+1+1,?_,?_,?_,?_,?_,?_,?_⟩
       all_goals first|rfl|(simp only[bD,seval,-Int.reduceToNat,hr1,hr4,ax5,Zb,ax17,ax18,q21a,q21b,q21c,q21d]<;>rfl)
      ·obtain⟨x22,hx22,hh⟩:=ae hh
       obtain⟨q23a,q23b,q23c,q23d⟩:=ey (eI .i64) hx22
       simp only[bZ]at q23b
       cases hh
       try simp only[bD,seval,-Int.reduceToNat,hr1,hr4,ax5,Zb,ax17,ax18,q23a,q23b,q23c,q23d]
       refine jg ?_
       refine⟨v3b,e+1+1+1+1+1,?_,?_,?_,?_,?_,?_,?_⟩
       all_goals first|rfl|(simp only[bD,seval,-Int.reduceToNat,hr1,hr4,ax5,Zb,ax17,ax18,q23a,q23b,q23c,q23d]<;>rfl)
     ·cases hh
      try simp only[bD,seval,-Int.reduceToNat,hr1,hr4,ax5,Zb]
      refine kX ?_
      refine⟨rfl,⟨v8b,?_,?_⟩⟩
      all_goals first|rfl|(simp only[bD,seval,-Int.reduceToNat,hr1,hr4,ax5,Zb]<;>rfl)
    ·rintro x t H e hx
     obtain⟨l8bx,rfl⟩:∃z,z=o15:=⟨_,rfl⟩
     dsimp only at hx hh
     obtain⟨rfl,⟨v8bx,Zbx⟩⟩:=hx
     cases hh
     try simp only[bD,seval,-Int.reduceToNat,hr1,hr4,ax5,Zbx]
 ·clear hh
  have hh:=ho2
  try simp only[bD,seval,-Int.reduceToNat,hr1]
  refine sp aX hh (fun _ hh =>?_) (fun _ hh =>?_)
  ·cases hh
   try simp only[bD,seval,-Int.reduceToNat,hr1]
   rw[an]
   refine⟨_,rfl,?_⟩
   refine⟨0,?_,?_,?_,?_,?_⟩
   all_goals first|rfl|(simp only[bD,seval,-Int.reduceToNat,hr1]<;>rfl)
  ·obtain⟨r25,hr25,hh⟩:=ae hh
   try simp only[bD,seval,-Int.reduceToNat,hr1,hr25]
   refine sp aX hh (fun _ hh =>?_) (fun _ hh =>?_)
   ·cases hh
    try simp only[bD,seval,-Int.reduceToNat,hr1,hr25]
    rw[an]
    refine⟨_,rfl,?_⟩
    refine⟨0,?_,?_,?_,?_,?_⟩
    all_goals first|rfl|(simp only[bD,seval,-Int.reduceToNat,hr1,hr25]<;>rfl)
   ·obtain⟨r27,hr27,hh⟩:=ae hh
    cases hh
    try simp only[bD,seval,-Int.reduceToNat,hr1,hr25,hr27]
    rw[an]
    refine⟨_,rfl,?_⟩
    refine⟨0,?_,?_,?_,?_,?_⟩
    all_goals first|rfl|(simp only[bD,seval,-Int.reduceToNat,hr1,hr25,hr27]<;>rfl)
theorem G1:bM Tryz.prog 55 sj:=bM.of (mode := .clean) tok Gt mixed Tryz.func55 (by kernel_rfl) ⟨by kernel_rfl,by kernel_rfl⟩ (fun _=>Nat.le_of_ble_eq_true (by kernel_rfl)) (fun x r h=>JJ x.1 x.2.1 x.2.2 r h)
noncomputable def vk:=eN (dU (dm dQ) (dU (aI .i64) (dU (iI (eI .i64)) (dU (dm sG) (dR (aI .i64)))))) (fun x:aw×Int×(List Int)×eP×Int=>jo x.1 x.2.1 x.2.2.1 x.2.2.2.1 x.2.2.2.2) (fun r:aL =>.clean (.agg [.int .i64 r.ck,.sl false false r.dD.length (ab (eI .i64) r.dD),.str r.cD,.int .i64 r.aE,.int .i64 r.aH]))
theorem Ci (p0_0:(List aj)) (p1:Int) (p2:(List Int)) (p3_0:(List ByteArray)) (p3_1:(List Int)) (p3_2:(List Int)) (p4:Int):vk none [.agg [.sl false false p0_0.length (ab al p0_0)],.int .i64 p1,.sl false false p2.length (ab (eI .i64) p2),.agg [.sl false false p3_0.length (ab fF p3_0),.sl false false p3_1.length (ab (eI .i64) p3_1),.sl false false p3_2.length (ab (eI .i64) p3_2)],.int .i64 p4]=(jo (aw.mk p0_0) p1 p2 (eP.mk p3_0 p3_1 p3_2) p4).map fun r:aL=>(.clean (.agg [.int .i64 r.ck,.sl false false r.dD.length (ab (eI .i64) r.dD),.str r.cD,.int .i64 r.aE,.int .i64 r.aH]),none):=aJ _ _ _ ((aw.mk p0_0),p1,p2,(eP.mk p3_0 p3_1 p3_2),p4)
noncomputable def qD:Env:=(Am.ext aV 55 false sj)
theorem IM:bR Tryz.prog qD:=(bR.none.add G1 false)
theorem CQ:type_of% (ai @w<|ai @ze<|@qD.eq_1):=⟨@w,@ze,@qD.eq_1⟩
theorem LN (p0:aw) (p1:Int) (p2:(List Int)) (p3:eP) (p4:Int) (r:aL) (hh:jo p0 p1 p2 p3 p4=some r):aP .clean tab qD FU Tryz.f28 none [.agg [.sl false false p0.ag.length (ab al p0.ag)],.int .i64 p1,.sl false false p2.length (ab (eI .i64) p2),.agg [.sl false false p3.aZ.length (ab fF p3.aZ),.sl false false p3.aQ.length (ab (eI .i64) p3.aQ),.sl false false p3.bt.length (ab (eI .i64) p3.bt)],.int .i64 p4]=some (.clean (.agg [.int .i64 r.ck,.sl false false r.dD.length (ab (eI .i64) r.dD),.str r.cD,.int .i64 r.aE,.int .i64 r.aH]),none):=by
 refine ax rfl Tryz.ntmps28 Tryz.results28 ?_
 unfold jo at hh
 obtain⟨x1,hx1,hh⟩:=ae hh
 have ax1:=bH (eI .i64) hx1
 simp only[bZ]at ax1
 have ax1:=bH (eI .i64) hx1
 simp only[bZ]at ax1
 obtain⟨r2,hr2,hh⟩:=ae hh
 obtain⟨x3,hx3,hh⟩:=ae hh
 have ax3:=bH fF hx3
 simp only[bZ]at ax3
 obtain⟨x4,hx4,hh⟩:=ae hh
 have ax4:=bH (eI .i64) hx4
 simp only[bZ]at ax4
 obtain⟨x5,hx5,hh⟩:=ae hh
 have ax5:=bH (eI .i64) hx5
 simp only[bZ]at ax5
 try simp only[CQ,seval,-Int.reduceToNat,ax1,ax1,hr2,ax3,ax4,ax5]
 refine cj (by kernel_rfl) ?_
 cases hh
 try simp only[CQ,seval,-Int.reduceToNat,ax1,ax1,hr2,ax3,ax4,ax5]
theorem J3:bM Tryz.prog 28 vk:=bM.of (mode := .clean) tok IM mixed Tryz.func28 (by kernel_rfl) ⟨by kernel_rfl,by kernel_rfl⟩ (fun _=>Nat.le_of_ble_eq_true (by kernel_rfl)) (fun x r h=>LN x.1 x.2.1 x.2.2.1 x.2.2.2.1 x.2.2.2.2 r h)
noncomputable def se:=eN (dR (iI (eI .i64))) (fun x:(List Int)=>ik x) (fun r:Int =>.clean (.int .i64 r))
theorem za (p0:(List Int)):se none [.sl false false p0.length (ab (eI .i64) p0)]=(ik p0).map fun r:Int=>(.clean (.int .i64 r),none):=aJ _ _ _ (p0)
theorem JA (p0:(List Int)) (r:Int) (hh:ik p0=some r):aP .clean tab aV FU Tryz.f33 none [.sl false false p0.length (ab (eI .i64) p0)]=some (.clean (.int .i64 r),none):=by
 refine ax rfl Tryz.ntmps33 Tryz.results33 ?_
 unfold ik at hh
 try simp only[w,seval,-Int.reduceToNat]
 obtain⟨o3,ho3,hh⟩:=ae hh
 refine az (fun s t H e=>match s with|(s3a,s4a)=>t 0=.sl false false p0.length (ab (eI .i64) p0)∧t 3=.int .i64 s3a∧t 4=.int .i64 s4a) (fun o x t H e=>match o with|s3ax=>x=.exit 0∧t 3=.int .i64 s3ax) ho3 ?_ ?_ ?_
 ·refine⟨?_,?_,?_⟩
  all_goals first|rfl|(simp only[w,seval,-Int.reduceToNat]<;>rfl)
 ·rintro⟨s3a,s4a⟩ t H e Za c hh
  simp only[ja]at hh
  try simp only[w,seval,-Int.reduceToNat,Za]
  refine sp ak hh (fun _ hh =>?_) (fun _ hh =>?_)
  ·obtain⟨x5,hx5,hh⟩:=ae hh
   have ax5:=bH (eI .i64) hx5
   simp only[bZ]at ax5
   cases hh
   try simp only[w,seval,-Int.reduceToNat,Za,ax5]
   refine jg ?_
   refine⟨?_,?_,?_⟩
   all_goals first|rfl|(simp only[w,seval,-Int.reduceToNat,Za,ax5]<;>rfl)
  ·cases hh
   try simp only[w,seval,-Int.reduceToNat,Za]
   refine kX ?_
   refine⟨rfl,?_⟩
   all_goals first|rfl|(simp only[w,seval,-Int.reduceToNat,Za]<;>rfl)
 ·rintro x t H e hx
  obtain⟨s3ax,rfl⟩:∃z,z=o3:=⟨_,rfl⟩
  dsimp only at hx hh
  obtain⟨rfl,Zax⟩:=hx
  cases hh
  try simp only[w,seval,-Int.reduceToNat,Zax]
theorem GW:bM Tryz.prog 33 se:=bM.of (mode := .clean) tok bR.none mixed Tryz.func33 (by kernel_rfl) ⟨by kernel_rfl,by kernel_rfl⟩ (fun _=>Nat.le_of_ble_eq_true (by kernel_rfl)) (fun x r h=>JA x r h)
noncomputable def vP:=eN (dU (dm dQ) (dU (dm sG) (dU (aI .u16) (dR (iI eZ))))) (fun x:aw×eP×Int×(List cr)=>er x.1 x.2.1 x.2.2.1 x.2.2.2) (fun r:Bool =>.clean (.bool r))
noncomputable def iE:Env:=(Am.ext (Am.ext (Am.ext (Am.ext (Am.ext (Am.ext (Am.ext (Am.ext (Am.ext (Am.ext (Am.ext (Am.ext aV 9 false sd) 10 false xz) 13 false jm) 17 false pX) 26 false xr) 27 false pV) 28 false vk) 29 false xy) 30 false ko) 31 false pZ) 32 false tF) 33 false se)
theorem vw:bR Tryz.prog iE:=((((((((((((bR.none.add GV false).add L9 false).add nW false).add yZ false).add L2 false).add Dw false).add J3 false).add L8 false).add pg false).add y3 false).add B8 false).add GW false)
theorem au:type_of% (ai @w<|ai @y9<|ai @Fs<|ai @fh<|ai @qU<|ai @Fj<|ai @wV<|ai @Ci<|ai @Fq<|ai @jd<|ai @qV<|ai @ue<|ai @za<|@iE.eq_1):=⟨@w,@y9,@Fs,@fh,@qU,@Fj,@wV,@Ci,@Fq,@jd,@qV,@ue,@za,@iE.eq_1⟩
theorem wM (p0:aw) (p1:eP) (p2:Int) (p3:(List cr)) (r:Bool) (hh:er p0 p1 p2 p3=some r):aP .clean tab iE FU Tryz.f6 none [.agg [.sl false false p0.ag.length (ab al p0.ag)],.agg [.sl false false p1.aZ.length (ab fF p1.aZ),.sl false false p1.aQ.length (ab (eI .i64) p1.aQ),.sl false false p1.bt.length (ab (eI .i64) p1.bt)],.int .u16 p2,.sl false false p3.length (ab eZ p3)]=some (.clean (.bool r),none):=by
 refine ax rfl Tryz.ntmps6 Tryz.results6 ?_
 unfold er at hh
 obtain⟨r1,hr1,hh⟩:=ae hh
 obtain⟨r2,hr2,hh⟩:=ae hh
 try simp only[au,seval,-Int.reduceToNat,hr1,hr2]
 obtain⟨o3,ho3,hh⟩:=ae hh
 refine bW 0 (fun s t H e=>match s with|s34j1=>∃v4j1:Nat,∃v5j1:Nat,t 2=.int .u16 p2∧t 3=.sl false false p3.length (ab eZ p3)∧t 4=.ptr 4 v4j1 0∧t 5=.ptr 5 v5j1 0∧t 9=.bool r1∧t 34=.bool s34j1∧H 4=some ⟨v4j1,24,[.sl false false p0.ag.length (ab al p0.ag)],false,false,false⟩∧H 5=some ⟨v5j1,60,[.sl false false p1.aZ.length (ab fF p1.aZ),.sl false false p1.aQ.length (ab (eI .i64) p1.aQ),.sl false false p1.bt.length (ab (eI .i64) p1.bt)],false,false,false⟩) (fun s=>s=o3) ?_ ?_
 ·rintro s34j1 t H e ⟨v4j1,v5j1,Zj1⟩ rfl
  try dsimp only at hh
  try simp only[au,seval,-Int.reduceToNat,hr1,hr2,Zj1]
  refine sp ak hh (fun _ hh =>?_) (fun _ hh =>?_)
  ·cases hh
   try simp only[au,seval,-Int.reduceToNat,hr1,hr2,Zj1]
  ·obtain⟨r5,hr5,hh⟩:=ae hh
   try simp only[au,seval,-Int.reduceToNat,hr1,hr2,Zj1,hr5]
   refine sp ak hh (fun _ hh =>?_) (fun _ hh =>?_)
   ·cases hh
    try simp only[au,seval,-Int.reduceToNat,hr1,hr2,Zj1,hr5]
   ·try simp only[au,seval,-Int.reduceToNat,hr1,hr2,Zj1,hr5]
    obtain⟨o32,ho32,hh⟩:=ae hh
    refine az (fun s t H e=>match s with|(s18b,l14b,l15b,l16b,l17b)=>∃v5b:Nat,∃v10b:Nat,∃v14b:Nat,∃v15b:Nat,∃v16b:Nat,∃v17b:Nat,t 2=.int .u16 p2∧t 3=.sl false false p3.length (ab eZ p3)∧t 5=.ptr 5 v5b 0∧t 9=.bool r1∧t 10=.ptr 10 v10b 0∧t 11=.int .i64 r5.2.1∧t 12=.sl false false r5.2.2.1.length (ab (eI .i64) r5.2.2.1)∧t 14=.buf 14 v14b 1 0 (l14b).length∧t 15=.buf 15 v15b 5 0 (l15b).length∧t 16=.buf 16 v16b 9 0 (l16b).length∧t 17=.buf 17 v17b 2 0 (l17b).length∧t 18=.int .i64 s18b∧H 5=some ⟨v5b,60,[.sl false false p1.aZ.length (ab fF p1.aZ),.sl false false p1.aQ.length (ab (eI .i64) p1.aQ),.sl false false p1.bt.length (ab (eI .i64) p1.bt)],false,false,false⟩∧H 10=some ⟨v10b,24,[.sl false false r5.1.ag.length (ab al r5.1.ag)],false,false,false⟩∧H 14=some ⟨v14b,3,ab (eI .i64) l14b,false,true,false⟩∧H 15=some ⟨v15b,67,ab bU l15b,false,true,false⟩∧H 16=some ⟨v16b,55,ab bc l16b,false,true,false⟩∧H 17=some ⟨v17b,74,ab bJ l17b,false,true,false⟩) (fun o x t H e=>match o with|(.inl (l14bx,l15bx,l16bx,l17bx))=>x=.exit 0∧∃v5bx:Nat,∃v10bx:Nat,∃v14bx:Nat,∃v15bx:Nat,∃v16bx:Nat,∃v17bx:Nat,t 5=.ptr 5 v5bx 0∧t 9=.bool r1∧t 10=.ptr 10 v10bx 0∧t 11=.int .i64 r5.2.1∧t 14=.buf 14 v14bx 1 0 (l14bx).length∧t 15=.buf 15 v15bx 5 0 (l15bx).length∧t 16=.buf 16 v16bx 9 0 (l16bx).length∧t 17=.buf 17 v17bx 2 0 (l17bx).length∧H 5=some ⟨v5bx,60,[.sl false false p1.aZ.length (ab fF p1.aZ),.sl false false p1.aQ.length (ab (eI .i64) p1.aQ),.sl false false p1.bt.length (ab (eI .i64) p1.bt)],false,false,false⟩∧H 10=some ⟨v10bx,24,[.sl false false r5.1.ag.length (ab al r5.1.ag)],false,false,false⟩∧H 14=some ⟨v14bx,3,ab (eI .i64) l14bx,false,true,false⟩∧H 15=some ⟨v15bx,67,ab bU l15bx,false,true,false⟩∧H 16=some ⟨v16bx,55,ab bc l16bx,false,true,false⟩∧H 17=some ⟨v17bx,74,ab bJ l17bx,false,true,false⟩|(.inr r)=>x=.ret∧gT .clean tab none [.tmp 8] ⟨t,H,e⟩=some (.clean (.bool r),none)) ho32 ?_ ?_ ?_
    ·refine⟨v5j1,e,e+1+1,e+1+1+1,e+1+1+1+1,e+1+1+1+1+1,?_,?_,?_,?_,?_,?_,?_,?_,?_,?_,?_,?_,?_,?_,?_,?_,?_,?_⟩
     all_goals first|rfl|(simp only[au,seval,-Int.reduceToNat,hr1,hr2,Zj1,hr5]<;>rfl)
    ·rintro⟨s18b,l14b,l15b,l16b,l17b⟩ t H e ⟨v5b,v10b,v14b,v15b,v16b,v17b,Zb⟩ c hh
     simp only[eF]at hh
     try simp only[au,seval,-Int.reduceToNat,hr1,hr2,hr5,Zb]
     refine sp ak hh (fun _ hh =>?_) (fun _ hh =>?_)
     ·obtain⟨x34,hx34,hh⟩:=ae hh
      have q35:=oT hx34
      try simp only[au,seval,-Int.reduceToNat,hr1,hr2,hr5,Zb,q35]
      refine sp ak hh (fun _ hh =>?_) (fun _ hh =>?_)
      ·cases hh
       try simp only[au,seval,-Int.reduceToNat,hr1,hr2,hr5,Zb,q35]
       refine jg ?_
       refine⟨v5b,v10b,v14b,v15b,v16b,v17b,?_,?_,?_,?_,?_,?_,?_,?_,?_,?_,?_,?_,?_,?_,?_,?_,?_,?_⟩
       all_goals first|rfl|(simp only[au,seval,-Int.reduceToNat,hr1,hr2,hr5,Zb,q35]<;>rfl)
      ·obtain⟨x37,hx37,hh⟩:=ae hh
       have ax37:=bH (eI .i64) hx37
       simp only[bZ]at ax37
       obtain⟨x38,hx38,hh⟩:=ae hh
       obtain⟨q39a,q39b,q39c,q39d⟩:=ey (eI .i64) hx38
       simp only[bZ]at q39b
       obtain⟨r40,hr40,hh⟩:=ae hh
       obtain⟨x41,hx41,hh⟩:=ae hh
       obtain⟨q42a,q42b,q42c,q42d⟩:=ey bU hx41
       simp only[bZ]at q42b
       try simp only[au,seval,-Int.reduceToNat,hr1,hr2,hr5,Zb,q35,ax37,q39a,q39b,q39c,q39d,hr40,q42a,q42b,q42c,q42d]
       refine sp ak hh (fun _ hh =>?_) (fun _ hh =>?_)
       ·obtain⟨x44,hx44,hh⟩:=ae hh
        have ax44:=bH eZ hx44
        simp only[bZ]at ax44
        obtain⟨r45,hr45,hh⟩:=ae hh
        try simp only[au,seval,-Int.reduceToNat,hr1,hr2,hr5,Zb,q35,ax37,q39a,q39b,q39c,q39d,hr40,q42a,q42b,q42c,q42d,ax44,hr45]
        obtain⟨o46,ho46,hh⟩:=ae hh
        refine bW 0 (fun s t H e=>match s with|s95j4=>∃v5j4:Nat,∃v10j4:Nat,∃v14j4:Nat,∃v15j4:Nat,∃v16j4:Nat,∃v17j4:Nat,t 2=.int .u16 p2∧t 3=.sl false false p3.length (ab eZ p3)∧t 5=.ptr 5 v5j4 0∧t 9=.bool r1∧t 10=.ptr 10 v10j4 0∧t 11=.int .i64 r5.2.1∧t 12=.sl false false r5.2.2.1.length (ab (eI .i64) r5.2.2.1)∧t 14=.buf 14 v14j4 1 0 (x38).length∧t 15=.buf 15 v15j4 5 0 (x41).length∧t 16=.buf 16 v16j4 9 0 (l16b).length∧t 17=.buf 17 v17j4 2 0 (l17b).length∧t 18=.int .i64 s18b∧t 95=.bool s95j4∧H 5=some ⟨v5j4,60,[.sl false false p1.aZ.length (ab fF p1.aZ),.sl false false p1.aQ.length (ab (eI .i64) p1.aQ),.sl false false p1.bt.length (ab (eI .i64) p1.bt)],false,false,false⟩∧H 10=some ⟨v10j4,24,[.sl false false r5.1.ag.length (ab al r5.1.ag)],false,false,false⟩∧H 14=some ⟨v14j4,3,ab (eI .i64) x38,false,true,false⟩∧H 15=some ⟨v15j4,67,ab bU x41,false,true,false⟩∧H 16=some ⟨v16j4,55,ab bc l16b,false,true,false⟩∧H 17=some ⟨v17j4,74,ab bJ l17b,false,true,false⟩) (fun s=>s=o46) ?_ ?_
        ·rintro s95j4 t H e ⟨v5j4,v10j4,v14j4,v15j4,v16j4,v17j4,Zj4⟩ rfl
         try dsimp only at hh
         try simp only[au,seval,-Int.reduceToNat,hr1,hr2,hr5,q35,ax37,q39a,q39b,q39c,q39d,hr40,q42a,q42b,q42c,q42d,ax44,hr45,Zj4]
         refine sp ak hh (fun _ hh =>?_) (fun _ hh =>?_)
         ·cases hh
          try simp only[au,seval,-Int.reduceToNat,hr1,hr2,hr5,q35,ax37,q39a,q39b,q39c,q39d,hr40,q42a,q42b,q42c,q42d,ax44,hr45,Zj4]
          refine yW ⟨rfl,?_⟩
          try simp only[au,seval,-Int.reduceToNat,hr1,hr2,hr5,q35,ax37,q39a,q39b,q39c,q39d,hr40,q42a,q42b,q42c,q42d,ax44,hr45,Zj4]
         ·have ax37:=bH (eI .i64) hx37
          simp only[bZ]at ax37
          have ax44:=bH eZ hx44
          simp only[bZ]at ax44
          obtain⟨x48,hx48,hh⟩:=ae hh
          obtain⟨q49a,q49b,q49c,q49d⟩:=ey bc hx48
          simp only[bZ]at q49b
          try simp only[au,seval,-Int.reduceToNat,hr1,hr2,hr5,q35,ax37,q39a,q39b,q39c,q39d,hr40,q42a,q42b,q42c,q42d,ax44,hr45,Zj4,ax37,ax44,q49a,q49b,q49c,q49d]
          refine cj (by kernel_rfl) ?_
          have ax44:=bH eZ hx44
          simp only[bZ]at ax44
          obtain⟨x50,hx50,hh⟩:=ae hh
          have ax50:=bH (eI .i64) hx50
          simp only[bZ]at ax50
          obtain⟨r51,hr51,hh⟩:=ae hh
          obtain⟨r52,hr52,hh⟩:=ae hh
          try simp only[au,seval,-Int.reduceToNat,hr1,hr2,hr5,q35,ax37,q39a,q39b,q39c,q39d,hr40,q42a,q42b,q42c,q42d,ax44,hr45,Zj4,ax37,ax44,q49a,q49b,q49c,q49d,ax44,ax50,hr51,hr52]
          refine cj (by kernel_rfl) ?_
          try simp only[au,seval,-Int.reduceToNat,hr1,hr2,hr5,q35,ax37,q39a,q39b,q39c,q39d,hr40,q42a,q42b,q42c,q42d,ax44,hr45,Zj4,ax37,ax44,q49a,q49b,q49c,q49d,ax44,ax50,hr51,hr52]
          refine sp ak hh (fun _ hh =>?_) (fun _ hh =>?_)
          ·have ax37:=bH (eI .i64) hx37
           simp only[bZ]at ax37
           obtain⟨x54,hx54,hh⟩:=ae hh
           obtain⟨q55a,q55b,q55c,q55d⟩:=ey bJ hx54
           simp only[bZ]at q55b
           cases hh
           try simp only[au,seval,-Int.reduceToNat,hr1,hr2,hr5,q35,ax37,q39a,q39b,q39c,q39d,hr40,q42a,q42b,q42c,q42d,ax44,hr45,Zj4,ax37,ax44,q49a,q49b,q49c,q49d,ax44,ax50,hr51,hr52,ax37,q55a,q55b,q55c,q55d]
           refine jg ?_
           refine⟨v5j4,v10j4,v14j4,v15j4,e,e+1+1,?_,?_,?_,?_,?_,?_,?_,?_,?_,?_,?_,?_,?_,?_,?_,?_,?_,?_⟩
           all_goals first|rfl|(simp only[au,seval,-Int.reduceToNat,hr1,hr2,hr5,q35,ax37,q39a,q39b,q39c,q39d,hr40,q42a,q42b,q42c,q42d,ax44,hr45,Zj4,ax37,ax44,q49a,q49b,q49c,q49d,ax44,ax50,hr51,hr52,ax37,q55a,q55b,q55c,q55d]<;>rfl)
          ·cases hh
           try simp only[au,seval,-Int.reduceToNat,hr1,hr2,hr5,q35,ax37,q39a,q39b,q39c,q39d,hr40,q42a,q42b,q42c,q42d,ax44,hr45,Zj4,ax37,ax44,q49a,q49b,q49c,q49d,ax44,ax50,hr51,hr52]
           refine jg ?_
           refine⟨v5j4,v10j4,v14j4,v15j4,e,v17j4,?_,?_,?_,?_,?_,?_,?_,?_,?_,?_,?_,?_,?_,?_,?_,?_,?_,?_⟩
           all_goals first|rfl|(simp only[au,seval,-Int.reduceToNat,hr1,hr2,hr5,q35,ax37,q39a,q39b,q39c,q39d,hr40,q42a,q42b,q42c,q42d,ax44,hr45,Zj4,ax37,ax44,q49a,q49b,q49c,q49d,ax44,ax50,hr51,hr52]<;>rfl)
        ·clear hh
         have hh:=ho46
         try simp only[au,seval,-Int.reduceToNat,hr1,hr2,hr5,Zb,q35,ax37,q39a,q39b,q39c,q39d,hr40,q42a,q42b,q42c,q42d,ax44,hr45]
         refine sp aX hh (fun _ hh =>?_) (fun _ hh =>?_)
         ·cases hh
          try simp only[au,seval,-Int.reduceToNat,hr1,hr2,hr5,Zb,q35,ax37,q39a,q39b,q39c,q39d,hr40,q42a,q42b,q42c,q42d,ax44,hr45]
          rw[an]
          refine⟨_,rfl,?_⟩
          refine⟨v5b,v10b,e+1+1,e+1+1+1,v16b,v17b,?_,?_,?_,?_,?_,?_,?_,?_,?_,?_,?_,?_,?_,?_,?_,?_,?_,?_,?_⟩
          all_goals first|rfl|(simp only[au,seval,-Int.reduceToNat,hr1,hr2,hr5,Zb,q35,ax37,q39a,q39b,q39c,q39d,hr40,q42a,q42b,q42c,q42d,ax44,hr45]<;>rfl)
         ·have ax44:=bH eZ hx44
          simp only[bZ]at ax44
          obtain⟨r57,hr57,hh⟩:=ae hh
          cases hh
          try simp only[au,seval,-Int.reduceToNat,hr1,hr2,hr5,Zb,q35,ax37,q39a,q39b,q39c,q39d,hr40,q42a,q42b,q42c,q42d,ax44,hr45,ax44,hr57]
          rw[an]
          refine⟨_,rfl,?_⟩
          refine⟨v5b,v10b,e+1+1,e+1+1+1,v16b,v17b,?_,?_,?_,?_,?_,?_,?_,?_,?_,?_,?_,?_,?_,?_,?_,?_,?_,?_,?_⟩
          all_goals first|rfl|(simp only[au,seval,-Int.reduceToNat,hr1,hr2,hr5,Zb,q35,ax37,q39a,q39b,q39c,q39d,hr40,q42a,q42b,q42c,q42d,ax44,hr45,ax44,hr57]<;>rfl)
       ·cases hh
        try simp only[au,seval,-Int.reduceToNat,hr1,hr2,hr5,Zb,q35,ax37,q39a,q39b,q39c,q39d,hr40,q42a,q42b,q42c,q42d]
        refine jg ?_
        refine⟨v5b,v10b,e+1+1,e+1+1+1,v16b,v17b,?_,?_,?_,?_,?_,?_,?_,?_,?_,?_,?_,?_,?_,?_,?_,?_,?_,?_⟩
        all_goals first|rfl|(simp only[au,seval,-Int.reduceToNat,hr1,hr2,hr5,Zb,q35,ax37,q39a,q39b,q39c,q39d,hr40,q42a,q42b,q42c,q42d]<;>rfl)
     ·cases hh
      try simp only[au,seval,-Int.reduceToNat,hr1,hr2,hr5,Zb]
      refine kX ?_
      refine⟨rfl,⟨v5b,v10b,v14b,v15b,v16b,v17b,?_,?_,?_,?_,?_,?_,?_,?_,?_,?_,?_,?_,?_,?_⟩⟩
      all_goals first|rfl|(simp only[au,seval,-Int.reduceToNat,hr1,hr2,hr5,Zb]<;>rfl)
    ·rintro x t H e hx
     rcases o32 with⟨l14bx,l15bx,l16bx,l17bx⟩|rb
     ·dsimp only at hx hh
      obtain⟨rfl,⟨v5bx,v10bx,v14bx,v15bx,v16bx,v17bx,Zbx⟩⟩:=hx
      obtain⟨r58,hr58,hh⟩:=ae hh
      obtain⟨r59,hr59,hh⟩:=ae hh
      obtain⟨r60,hr60,hh⟩:=ae hh
      try simp only[au,seval,-Int.reduceToNat,hr1,hr2,hr5,Zbx,hr58,hr59,hr60]
      refine cj (by kernel_rfl) ?_
      try simp only[au,seval,-Int.reduceToNat,hr1,hr2,hr5,Zbx,hr58,hr59,hr60]
      refine sp bB hh (fun _ hh =>?_) (fun _ hh =>?_)
      ·try simp only[au,seval,-Int.reduceToNat,hr1,hr2,hr5,Zbx,hr58,hr59,hr60]
       refine sp bB hh (fun _ hh =>?_) (fun _ hh =>?_)
       ·obtain⟨r63,hr63,hh⟩:=ae hh
        cases hh
        try simp only[au,seval,-Int.reduceToNat,hr1,hr2,hr5,Zbx,hr58,hr59,hr60,hr63]
       ·cases hh
        try simp only[au,seval,-Int.reduceToNat,hr1,hr2,hr5,Zbx,hr58,hr59,hr60]
      ·cases hh
       try simp only[au,seval,-Int.reduceToNat,hr1,hr2,hr5,Zbx,hr58,hr59,hr60]
     ·dsimp only at hx hh
      obtain⟨rfl,hE⟩:=hx
      cases hh
      try simp only[bq,bh,bF,dw,du]
      exact hE
 ·clear hh
  have hh:=ho3
  try simp only[au,seval,-Int.reduceToNat,hr1,hr2]
  refine sp aX hh (fun _ hh =>?_) (fun _ hh =>?_)
  ·cases hh
   try simp only[au,seval,-Int.reduceToNat,hr1,hr2]
   rw[an]
   refine⟨_,rfl,?_⟩
   refine⟨0,0,?_,?_,?_,?_,?_,?_,?_,?_⟩
   all_goals first|rfl|(simp only[au,seval,-Int.reduceToNat,hr1,hr2]<;>rfl)
  ·obtain⟨r65,hr65,hh⟩:=ae hh
   try simp only[au,seval,-Int.reduceToNat,hr1,hr2,hr65]
   refine sp aX hh (fun _ hh =>?_) (fun _ hh =>?_)
   ·cases hh
    try simp only[au,seval,-Int.reduceToNat,hr1,hr2,hr65]
    rw[an]
    refine⟨_,rfl,?_⟩
    refine⟨0,0,?_,?_,?_,?_,?_,?_,?_,?_⟩
    all_goals first|rfl|(simp only[au,seval,-Int.reduceToNat,hr1,hr2,hr65]<;>rfl)
   ·cases hh
    try simp only[au,seval,-Int.reduceToNat,hr1,hr2,hr65]
    rw[an]
    refine⟨_,rfl,?_⟩
    refine⟨0,0,?_,?_,?_,?_,?_,?_,?_,?_⟩
    all_goals first|rfl|(simp only[au,seval,-Int.reduceToNat,hr1,hr2,hr65]<;>rfl)
theorem vC:bM Tryz.prog 6 vP:=bM.of (mode := .clean) tok vw mixed Tryz.func6 (by kernel_rfl) ⟨by kernel_rfl,by kernel_rfl⟩ (fun _=>Nat.le_of_ble_eq_true (by kernel_rfl)) (fun x r h=>wM x.1 x.2.1 x.2.2.1 x.2.2.2 r h)
end Go.Proofs.YtpkahnkoecbndaaGreatDoor.Am
namespace Go.Proofs.YtpkahnkoecbndaaGreatDoor.Am
open Go.ChangeShapes Go.WideShapes Go.ChangeAt Go.RowKit Go.Proofs.YtpkahnkoecbndaaGreatDoor.P
set_option maxRecDepth 100000
set_option linter.unusedVariables false
theorem Tryz.own:ownKnob Tryz.prog.godebug=none:=by kernel_rfl
theorem Tryz.laidOut:laidOutB Tryz.prog=true:=by kernel_rfl
theorem WN (n:Nat):CR tab (n+1) 9 fF (fun x=>x.size≤140737488351232):=WE OJ rfl rfl
theorem PI (n:Nat):CR tab (n+1) 3 (eI .i64) (fun x=>(Lit.int .i64 x).wf=true):=YB OI rfl rfl
def xY (x:aj):Prop:=x.cD.size≤140737488351232∧((Lit.int .i64 x.aE).wf=true∧((Lit.int .i64 x.aH).wf=true∧((Lit.int .i64 x.bk).wf=true∧((Lit.int .i64 x.bd).wf=true))))
theorem WM (n:Nat):CR tab (n+2) 87 al (fun x=>xY x):=V5 (g:=fun y=>aj.mk y.1 y.2.1 y.2.2.1 y.2.2.2.1 y.2.2.2.2) Hk rfl rfl (fun _=>rfl) (G5 (WN n) rfl (G5 (PI n) rfl (G5 (PI n) rfl (G5 (PI n) rfl (PH (PI n))))))
theorem WG (n:Nat):CR tab (n+3) 22 (pQ al) (fun x=>(x.length*48≤140737488351232∧∀y∈x,xY y)):=T0 Mj rfl rfl (by rw[Hk];rfl) (WM n)
def pL (x:aw):Prop:=(x.ag.length*48≤140737488351232∧∀y∈x.ag,xY y)
theorem WH (n:Nat):CR tab (n+4) 24 dQ (fun x=>pL x):=V5 (g:=fun y=>aw.mk y) Hg rfl rfl (fun _=>rfl) (PH (WG n))
theorem RY (n:Nat):CR tab (n+2) 25 (pQ (eI .i64)) (fun x=>(x.length*8≤140737488351232∧∀y∈x,(Lit.int .i64 y).wf=true)):=T0 Mk rfl rfl (by rw[OI];rfl) (PI n)
def GS (x:ay):Prop:=(Lit.int .i64 x.ah).wf=true∧((x.aa.length*8≤140737488351232∧∀y∈x.aa,(Lit.int .i64 y).wf=true))
theorem UZ (n:Nat):CR tab (n+3) 49 ib (fun x=>GS x):=V5 (g:=fun y=>ay.mk y.1 y.2) Ml rfl rfl (fun _=>rfl) (G5 (PI (n+1)) rfl (PH (RY n)))
def B3 (x:aT):Prop:=GS x.cu∧(GS x.ct)
theorem U0 (n:Nat):CR tab (n+4) 51 lj (fun x=>B3 x):=V5 (g:=fun y=>aT.mk y.1 y.2) Mm rfl rfl (fun _=>rfl) (G5 (UZ n) rfl (PH (UZ n)))
def pK (x:cr):Prop:=B3 x.bn∧(B3 x.aM)
theorem WI (n:Nat):CR tab (n+5) 53 eZ (fun x=>pK x):=V5 (g:=fun y=>cr.mk y.1 y.2) Hh rfl rfl (fun _=>rfl) (G5 (U0 n) rfl (PH (U0 n)))
theorem WJ (n:Nat):CR tab (n+2) 58 (pQ fF) (fun x=>(x.length*16≤140737488351232∧∀y∈x,y.size≤140737488351232)):=T0 Mn rfl rfl (by rw[OJ];rfl) (WN n)
def s7 (x:eP):Prop:=(x.aZ.length*16≤140737488351232∧∀y∈x.aZ,y.size≤140737488351232)∧((x.aQ.length*8≤140737488351232∧∀y∈x.aQ,(Lit.int .i64 y).wf=true)∧((x.bt.length*8≤140737488351232∧∀y∈x.bt,(Lit.int .i64 y).wf=true)))
theorem WK (n:Nat):CR tab (n+3) 60 sG (fun x=>s7 x):=V5 (g:=fun y=>eP.mk y.1 y.2.1 y.2.2) Hi rfl rfl (fun _=>rfl) (G5 (WJ n) rfl (G5 (RY n) rfl (PH (RY n))))
theorem WL (n:Nat):CR tab (n+6) 62 (pQ eZ) (fun x=>(x.length*128≤140737488351232∧∀y∈x,pK y)):=T0 Hj rfl rfl (by rw[Hh];rfl) (WI n)
theorem sb:Qi tab 7 [24,60,61,62] (dU (dm dQ) (dU (dm sG) (dU (aI .u16) (dR (iI eZ))))) (fun x=>pL x.1∧(s7 x.2.1∧((Lit.int .u16 x.2.2.1).wf=true∧((x.2.2.2.length*128≤140737488351232∧∀y∈x.2.2.2,pK y))))):=(VE (Yj Hg rfl (WH 3)) (VE (Yj Hi rfl (WK 4)) (VE (YA Mo rfl) (X4 (X3 Hj rfl (WL 1))))))
theorem qM (law:∀(a0:aw) (a1:eP) (a2:Int) (a3:(List cr)),(pL a0)→(s7 a1)→((Lit.int .u16 a2).wf=true)→((a3.length*128≤140737488351232∧∀y∈a3,pK y))→P.er a0 a1 a2 a3=some true) (os:Os) (started:os.Started) (H:Type) (enc:TypeId×Value→H) :
  ReturnsInHanded {} Tryz.checked os 6 .any (fun w args=>(Rows.auditHonestSpec.pre enc Tryz.prog Tryz.f6 Rows.auditHonestRow.domain false w args∧laidMetH Tryz.prog Jg w)∧sizedMet enc Tryz.prog Tryz.f6 (OpenSpec.ofChange Rows.auditHonestSpec) false w args) (Rows.auditHonestSpec.post enc Tryz.prog Tryz.f6 false true false false):=by
 refine R9 (C:=Tryz.checked) (X:=fun w _=>laidMetH Tryz.prog Jg w) (fun _ _ _ hh h=>h.of_heap hh) (fun _ _ h=>Ry h) (T:=tab) (tb:=4) (n:=7) tok Tryz.own started (by kernel_rfl) Tryz.func6
  (ChangeSpec.witness_shaped (enc:=enc) (C:=Tryz.checked) (os:=os) (X:=fun w _=>laidMetH Tryz.prog Jg w) false (World.doorLaid Tryz.prog 400 os) #[.agg #[.slice none 0 0],.agg #[.slice none 0 0,.slice none 0 0,.slice none 0 0],.int .u16 0,.slice none 0 0] 8 rfl (World.shaped_of_RefB (by kernel_rfl) (by kernel_rfl)) (by kernel_rfl) (by kernel_rfl) (by kernel_rfl) (Q6 os _)) Tryz.laidOut (by kernel_rfl) rfl (by kernel_rfl) rfl (fun ds hds =>?_) (fun ar hl hs =>?_)
 ·rw[Tryz.params6]at hds
  match ds,hds with
  | [d0,d1,d2,d3],_=>exact⟨rfl,rfl,rfl⟩
 ·rw[Tryz.params6]at hl hs
  exact Vz sb vC (fun x hx=>law x.1 x.2.1 x.2.2.1 x.2.2.2 hx.1 hx.2.1 hx.2.2.1 hx.2.2.2) ar hl hs
theorem tx (law:∀(a0:aw) (a1:eP) (a2:Int) (a3:(List cr)),(pL a0)→(s7 a1)→((Lit.int .u16 a2).wf=true)→((a3.length*128≤140737488351232∧∀y∈a3,pK y))→P.er a0 a1 a2 a3=some true):Rows.AuditHonestSaid :=
 OpenClaim.holds_of_wide 6 Tryz.f6 rfl rfl rfl rfl rfl rfl rfl ⟨rfl,rfl,rfl,rfl,rfl⟩ rfl rfl rfl rfl rfl (by kernel_rfl) Tryz.func6 (by kernel_rfl)
  (of_decide_eq_true (by kernel_rfl)) (by unfold Func.isWrapper;first|(rw[if_pos (by decide +kernel)];kernel_rfl)|(rw[if_neg (by decide +kernel)];exact⟨rfl,rfl⟩))
  (fun os started H enc _=>qM law os started H enc)
theorem rZ (law:∀(a0:aw) (a1:eP) (a2:Int) (a3:(List cr)),(pL a0)→(s7 a1)→((Lit.int .u16 a2).wf=true)→((a3.length*128≤140737488351232∧∀y∈a3,pK y))→P.er a0 a1 a2 a3=some true):Rows.AuditHonestCardSaid :=
 Claim7.holds_tied_plain_at .later [] [.data,.data,.data] true Rows.auditHonestCard.stood.harness false
  (tx law) (fun _ h=>by cases h) (by kernel_rfl) (fun _ h=>by cases h) auditHonest_row_tie rfl ⟨rfl,rfl⟩ (by kernel_rfl) rfl
  (fun f fn hf hfn=>by
   obtain rfl:f=6:=Option.some.inj ((show Tryz.prog.funcNamed "kitbag/kitbaglaw51.AuditHonest" = some 6 by kernel_rfl).symm.trans hf) |>.symm
   obtain rfl:fn=Tryz.f6:=(Option.some.inj (Tryz.func6.symm.trans hfn)).symm
   exact⟨by kernel_rfl,fun j t ht=>by
    rw[Tryz.params6]at ht
    have hm:t∈[24,60,61,62]:=by simpa using Array.mem_of_getElem? ht
    have hall:([24,60,61,62].all fun u => !Tryz.prog.wantsStandIn u)=true:=by kernel_rfl
    exact (show Tryz.prog.wantsStandIn t=false by simpa using List.all_eq_true.1 hall t hm)⟩)
  (by kernel_rfl)
end Go.Proofs.YtpkahnkoecbndaaGreatDoor.Am
namespace Go.Proofs.YtpkahnkoecbndaaGreatDoor.P.T
open Go.RowKit
set_option linter.unusedSimpArgs false
set_option linter.unusedVariables false
theorem yp (n h:Int):ec n h=some (decide (0≤n∧n≤h)):=by
 unfold ec
 by_cases h0:n≥0
 ·rw[if_pos (by simpa using h0)]
  have:(0≤n∧n≤h)↔n≤h:=by omega
  simp[this]
 ·rw[if_neg (by simpa using h0)]
  have:¬(0≤n∧n≤h):=by omega
  simp[this]
def mC (x:aj):Prop:=x.bk = -1∧x.bd = -1∧(x.cD.size:Int)≤8000∧(0≤x.aE∧x.aE≤1099511627776)∧(0≤x.aH∧x.aH≤1099511627776)
instance (x:aj):Decidable (mC x):=by unfold mC;infer_instance
theorem NP (x:aj):iW x=some (decide (mC x)):=by
 unfold iW
 simp only[yp,Option.bind_some]
 by_cases h1:x.bk = -1
 ·rw[if_pos (by simpa using h1),Option.bind_some]
  by_cases h2:x.bd = -1
  ·rw[if_pos (by simpa using h2)]
   by_cases h3:(x.cD.size:Int)≤8000
   ·rw[if_pos (decide_eq_true h3)]
    by_cases h4:0≤x.aE∧x.aE≤1099511627776
    ·rw[if_pos (decide_eq_true h4)]
     congr 1
     rw[decide_eq_decide]
     exact⟨fun h=>⟨h1,h2,h3,h4,h⟩,fun h=>h.2.2.2.2⟩
    ·rw[if_neg (by simpa using h4),decide_eq_false (fun h:mC x=>h4 h.2.2.2.1)]
   ·rw[if_neg (by simpa using h3),decide_eq_false (fun h:mC x=>h3 h.2.2.1)]
  ·rw[if_neg (by simpa using h2),decide_eq_false (fun h:mC x=>h2 h.2.1)]
 ·rw[if_neg (by simpa using h1),Option.bind_some,if_neg (by simp),decide_eq_false (fun h:mC x=>h1 h.1)]
def S5:aj:=aj.mk (ByteArray.mk #[]) 0 0 0 0
def uV (l:List aj) (a b:Int):aj×Int :=
 match P.idx l a,P.idx l b with
 | some x,some y =>
  if IntKind.i64.wrap (x.aE+y.aE)>1125899906842624∨IntKind.i64.wrap (x.aH+y.aH)>1125899906842624 then (S5,3)
  else (aj.mk (ByteArray.mk #[]) (IntKind.i64.wrap (x.aE+y.aE)) (IntKind.i64.wrap (x.aH+y.aH)) a b,0)
 | _,_=>(S5,4)
theorem BL {α:Type} {l:List α} {i:Int} (h:¬(0≤i∧i<l.length)):P.idx l i=none:=by
 unfold P.idx
 rw[if_neg h]
theorem small {n:Nat} (h:n≤maxLen):(n:Int)≤9223372036854775807:=by
 have:maxLen≤9223372036854775807:=by decide
 omega
theorem T2 {l:List aj} (hl:l.length≤maxLen) (a b:Int):jV l a b=some (uV l a b):=by
 unfold jV
 have hw:IntKind.i64.wrap ((l.length:Int)-1)=(l.length:Int)-1:=wrap64 (by omega) (by have:=small hl;omega)
 simp only[yp,hw,Option.bind_some]
 by_cases ha:0≤a∧a<l.length
 ·have ha':(0≤a∧a≤(l.length:Int)-1):=by omega
  by_cases hb:0≤b∧b<l.length
  ·have hb':(0≤b∧b≤(l.length:Int)-1):=by omega
   simp only[ha',hb',and_self,decide_true,Bool.not_true,Bool.false_eq_true,if_false,Aa ha.1 ha.2,Aa hb.1 hb.2,Option.bind_some,uV,decide_eq_true_eq]
   split
   ·rename_i h;rw[if_pos (.inl h)];rfl
   ·split
    ·rename_i h;rw[if_pos (.inr h)];rfl
    ·rename_i h h';rw[if_neg (by intro hh;rcases hh with hh|hh<;>contradiction)]
  ·have hb':¬(0≤b∧b≤(l.length:Int)-1):=by omega
   simp only[ha',hb',and_self,decide_true,decide_false,Bool.not_true,Bool.not_false,Bool.false_eq_true,if_false,if_true,Aa ha.1 ha.2,BL hb,uV]
   rfl
 ·have ha':¬(0≤a∧a≤(l.length:Int)-1):=by omega
  simp only[ha',decide_false,Bool.not_false,if_true,BL ha,uV]
  rfl
def TY (l:List aj) (i:Nat):Prop:=∀x,l[i]? = some x→mC x∨uV (l.take i) x.bk x.bd=(x,0)
def df (l:List aj):Prop:=l.length≤2000∧∀i,i<l.length→TY l i
theorem Oa (x y:aj):((x.cD==y.cD)&&((x.aE==y.aE)&&((x.aH==y.aH)&&((x.bk==y.bk)&&(x.bd==y.bd)))))=true↔x=y:=by
 obtain⟨a,b,c,d,e⟩:=x
 obtain⟨a',b',c',d',e'⟩:=y
 simp[Vj]
theorem lY (v:aw):∃b,dh v=some b∧(b=true↔df v.ag):=by
 obtain⟨l⟩:=v
 unfold dh
 simp only
 by_cases hlen:l.length≤2000
 ·have hle:¬((l.length:Int)>2000):=by omega
  simp only[hle,decide_false,Bool.false_eq_true,if_false]
  have hm:l.length≤maxLen:=Nat.le_trans hlen (by decide)
  obtain⟨r,h1,h2⟩:=fC (body:=kT ⟨l⟩) (fun s=>∃i:Nat,s=i∧i≤l.length∧∀j,j<i→TY l j) (fun s=>(l.length:Int).toNat-s.toNat)
   (fun r=>match r with | .inl _=>df l | .inr b=>b=false∧¬df l) (s:=0) ⟨0,rfl,Nat.zero_le _,fun j hj=>by omega⟩ (by simp only[FU];omega) (fun s hs=>by
    obtain⟨i,rfl,hi,hok⟩:=hs
    simp only[kT]
    by_cases hlt:i<l.length
    ·rw[if_pos (by simp;omega)]
     simp only[cq hlt,Option.bind_some,NP]
     have hw:IntKind.i64.wrap ((i:Int)+1)=((i+1:Nat):Int):=by rw[wrap64 (by omega) (by omega)];rfl
     have hnext:TY l i→(∃i':Nat,IntKind.i64.wrap ((i:Int)+1)=i'∧i'≤l.length∧∀j,j<i'→TY l j)∧(l.length:Int).toNat-(IntKind.i64.wrap ((i:Int)+1)).toNat<(l.length:Int).toNat-(i:Int).toNat:=by
      intro hk
      refine⟨⟨i+1,hw,hlt,fun j hj =>?_⟩,by rw[hw];omega⟩
      rcases Nat.lt_succ_iff_lt_or_eq.1 hj with h|rfl
      ·exact hok j h
      ·exact hk
     by_cases hleaf:mC l[i]
     ·left
      refine⟨_,by simp only[hleaf,decide_true,if_true],hnext fun x hx =>?_⟩
      rw[List.getElem?_eq_getElem hlt,Option.some.injEq]at hx
      subst hx;exact .inl hleaf
     ·simp only[hleaf,decide_false,Bool.false_eq_true,if_false,Af hi,Option.bind_some,T2 (show (l.take i).length≤maxLen by simp;omega)]
      have hbad:uV (l.take i) l[i].bk l[i].bd≠(l[i],0)→¬df l:=by
       intro hne hs
       rcases hs.2 i hlt _ (List.getElem?_eq_getElem hlt) with h|h
       ·exact hleaf h
       ·exact hne h
      generalize hp:uV (l.take i) l[i].bk l[i].bd=p at *
      obtain⟨y,e⟩:=p
      by_cases he:e=0
      ·subst he
       simp only[bne_self_eq_false,Bool.false_eq_true,if_false]
       by_cases hxy:l[i]=y
       ·left
        have:=(Oa l[i] y).2 hxy
        refine⟨_,by simp only[this,Bool.not_true,Bool.false_eq_true,if_false],hnext fun x hx =>?_⟩
        rw[List.getElem?_eq_getElem hlt,Option.some.injEq]at hx
        subst hx
        exact .inr (by rw[hp,hxy])
       ·right
        have:=mt (Oa l[i] y).1 hxy
        refine⟨.inr false,by rw[if_pos (by rw[Bool.not_eq_true]at this;rw[this];rfl)],rfl,hbad fun h=>hxy ?_⟩
        simp only[Prod.mk.injEq]at h
        exact h.1.symm
      ·right
       refine⟨.inr false,by rw[if_pos (by simpa using he)],rfl,hbad fun h=>he ?_⟩
       simp only[Prod.mk.injEq]at h
       exact h.2
    ·right
     refine⟨.inl (),by rw[if_neg (by simp;omega)],hlen,fun j hj=>hok j (by omega)⟩)
  rw[h1]
  cases r with
  | inl u=>exact⟨true,rfl,by simpa using h2⟩
  | inr b=>obtain⟨rfl,h3⟩:=h2;exact⟨false,rfl,by simpa using h3⟩
 ·have hle:((l.length:Int)>2000):=by omega
  simp only[hle,decide_true,if_true]
  exact⟨false,rfl,by simp only[Bool.false_eq_true,false_iff];exact fun h=>hlen h.1⟩
end Go.Proofs.YtpkahnkoecbndaaGreatDoor.P.T
namespace Go.Proofs.YtpkahnkoecbndaaGreatDoor.P.T
open Go.RowKit
set_option linter.unusedSimpArgs false
set_option linter.unusedVariables false
theorem Jb {σ ρ:Type} {body:σ→Option (σ⊕ρ)} {n:Nat} {s s':σ} (h:body s=some (.inl s')):l4 body (n+1) s=l4 body n s':=by simp only[l4,h]
theorem BO {σ ρ:Type} {body:σ→Option (σ⊕ρ)} {n:Nat} {s:σ} {r:ρ} (h:body s=some (.inr r)):l4 body (n+1) s=some r:=by simp only[l4,h]
theorem cm {i:Nat} (h:i<4611686018427387904):IntKind.i64.wrap ((i:Int)+1)=((i+1:Nat):Int):=by rw[wrap64 (by omega) (by omega)];omega
theorem bu {α:Type} {l:List α} {i:Nat} {x:α} (h:l[i]? = some x):P.idx l (i:Int)=some x:=sX (by omega) (by simpa using h)
theorem FK {σ ρ:Type} {body:σ→Option (σ⊕ρ)} (n:Nat) (S:Nat→σ) {r:ρ} (hn:n<4611686018427387904) (hstep:∀i,i<n→body (S i)=some (.inl (S (i+1)))) (hend:body (S n)=some (.inr r)):aW body (S 0)=some r:=by
 have key:∀(m i fuel:Nat),i+m=n→m<fuel→l4 body fuel (S i)=some r:=by
  intro m
  induction m with
  | zero =>
   intro i fuel hi hf
   obtain⟨f,rfl⟩:∃f,fuel=f+1:=⟨fuel-1,by omega⟩
   have:i=n:=by omega
   subst this
   exact BO hend
  | succ m ih =>
   intro i fuel hi hf
   obtain⟨f,rfl⟩:∃f,fuel=f+1:=⟨fuel-1,by omega⟩
   rw[Jb (hstep i (by omega))]
   exact ih (i+1) f (by omega) (by omega)
 exact key n 0 FU (by omega) (by have:FU=1000000000000000000000000:=rfl;omega)
def gw {α ρ:Type} (st:Nat→α→Option ρ):Nat→List α→Option ρ
 | _,[]=>none
 | i,x::l=>match st i x with|some r=>some r|none=>gw st (i+1) l
theorem ow {α ρ:Type} {st:Nat→α→Option ρ} : ∀ {l:List α} {i:Nat},gw st i l=none↔∀j x,l[j]? = some x→st (i+j) x=none
 | [],i=>by simp[gw]
 | x::l,i=>by
  simp only[gw]
  constructor
  ·intro h j y hj
   cases hs:st i x with
   | some r=>rw[hs]at h;cases h
   | none =>
    rw[hs]at h
    cases j with
    | zero=>simp only[List.getElem?_cons_zero,Option.some.injEq]at hj;subst hj;exact hs
    | succ j =>
     have:=ow.1 h j y (by simpa using hj)
     rw[← this];congr 1;omega
  ·intro h
   have h0:=h 0 x rfl
   simp only[Nat.add_zero]at h0
   rw[h0]
   refine ow.2 fun j y hj =>?_
   have:=h (j+1) y (by simpa using hj)
   rw[← this];congr 1;omega
theorem sS {α ρ:Type} {st:Nat→α→Option ρ} {r:ρ} : ∀ {l:List α} {i:Nat},gw st i l=some r→∃j x,l[j]? = some x∧st (i+j) x=some r
 | [],i,h=>by cases h
 | x::l,i,h=>by
  simp only[gw]at h
  cases hs:st i x with
  | some r' =>
   rw[hs]at h
   exact⟨0,x,rfl,by rw[Nat.add_zero,hs];exact h⟩
  | none =>
   rw[hs]at h
   obtain⟨j,y,h1,h2⟩:=sS h
   exact⟨j+1,y,by simpa using h1,by rw[← h2];congr 1;omega⟩
theorem drop_cons {α:Type} {l rest:List α} {i:Nat} {x:α} (h:l.drop i=x::rest):i<l.length∧l[i]? = some x∧l.drop (i+1)=rest:=by
 have hi:i<l.length:=by
  rcases Nat.lt_or_ge i l.length with h1|h1
  ·exact h1
  ·rw[List.drop_eq_nil_of_le h1]at h;cases h
 rw[List.drop_eq_getElem_cons hi]at h
 simp only[List.cons.injEq]at h
 exact⟨hi,by rw[List.getElem?_eq_getElem hi,h.1],h.2⟩
theorem WT {α ρ:Type} (l:List α) (n:Nat) {body:Int→Option (Int⊕(Unit⊕ρ))} (st:Nat→α→Option ρ) (hn:n≤l.length) (hlen:n<4611686018427387904)
  (hb:∀(i:Nat) x,i<n→l[i]? = some x→body (i:Int)=some (match st i x with|none =>.inl ((i+1:Nat):Int)|some r =>.inr (.inr r))) (he:body (n:Int)=some (.inr (.inl ()))) :
  aW body 0=some (match gw st 0 (l.take n) with|none =>.inl ()|some r =>.inr r):=by
 have key:∀(rest:List α) (i fuel:Nat),i≤n→(l.take n).drop i=rest→rest.length<fuel→l4 body fuel (i:Int)=some (match gw st i rest with|none =>.inl ()|some r =>.inr r):=by
  intro rest
  induction rest with
  | nil =>
   intro i fuel hi hd hf
   obtain⟨f,rfl⟩:∃f,fuel=f+1:=⟨fuel-1,by simp at hf;omega⟩
   have h0:=congrArg List.length hd
   simp at h0
   have:i=n:=by omega
   subst this
   rw[BO he]
   rfl
  | cons x rest ih =>
   intro i fuel hi hd hf
   obtain⟨f,rfl⟩:∃f,fuel=f+1:=⟨fuel-1,by simp at hf;omega⟩
   obtain⟨h1,h2,h3⟩:=drop_cons hd
   have hin:i<n:=by simp at h1;omega
   have h2':l[i]? = some x:=by rwa [List.getElem?_take_of_lt hin]at h2
   have:=hb i x hin h2'
   cases hs:st i x with
   | some r =>
    rw[hs]at this
    rw[BO this]
    simp only[gw,hs]
   | none =>
    rw[hs]at this
    rw[Jb this,ih (i+1) f (by omega) h3 (by simp at hf;omega)]
    simp only[gw,hs]
 exact key (l.take n) 0 FU (Nat.zero_le _) rfl (by have:FU=1000000000000000000000000:=rfl;simp;omega)
theorem Kv {α ρ:Type} (l:List α) {body:Int→Option (Int⊕(Unit⊕ρ))} (st:Nat→α→Option ρ) (hlen:l.length<4611686018427387904)
  (hb:∀(i:Nat) x,l[i]? = some x→body (i:Int)=some (match st i x with|none =>.inl ((i+1:Nat):Int)|some r =>.inr (.inr r))) (he:body (l.length:Int)=some (.inr (.inl ()))) :
  aW body 0=some (match gw st 0 l with|none =>.inl ()|some r =>.inr r):=by
 have:=WT l l.length st (Nat.le_refl _) hlen (fun i x _ h=>hb i x h) he
 rwa [List.take_length]at this
theorem XQ {α:Type} (l:List α) {body:Int→Option (Int⊕(Unit⊕Bool))} (p:Nat→α→Prop) [∀i x,Decidable (p i x)] (hlen:l.length<4611686018427387904)
  (hb:∀(i:Nat) x,l[i]? = some x→body (i:Int)=some (if p i x then .inl ((i+1:Nat):Int) else .inr (.inr false))) (he:body (l.length:Int)=some (.inr (.inl ()))) :
  (∃h:(∀i x,l[i]? = some x→p i x),aW body 0=some (.inl ()))∨(∃h:¬(∀i x,l[i]? = some x→p i x),aW body 0=some (.inr false)):=by
 have hs:=Kv l (fun i x=>if p i x then none else some false) hlen (fun i x hx=>by
  rw[hb i x hx]
  by_cases h:p i x
  ·rw[if_pos h,if_pos h]
  ·rw[if_neg h,if_neg h]) he
 cases hf:gw (fun i x=>if p i x then none else some false) 0 l with
 | none =>
  refine .inl ⟨fun i x hx =>?_,by rw[hs,hf]⟩
  have:=ow.1 hf i x hx
  simp only[Nat.zero_add]at this
  by_cases h:p i x
  ·exact h
  ·rw[if_neg h]at this;cases this
 | some r =>
  obtain⟨j,x,h1,h2⟩:=sS hf
  simp only[Nat.zero_add]at h2
  by_cases h:p j x
  ·rw[if_pos h]at h2;cases h2
  ·rw[if_neg h]at h2
   cases h2
   exact .inr ⟨fun hall=>h (hall j x h1),by rw[hs,hf]⟩
def N7 (row:List Int) (n:Int):Prop:=0≤n∧n≤1099511627776∧row.length≤100∧(row.length:Int)≤n∧∀i x,row[i]? = some x→0≤x∧x<n-(i:Nat)
open Classical in
theorem sq {row:List Int} (n:Int) (hr:row.length<4611686018427387904):iU row n=some (decide (N7 row n)):=by
 unfold iU
 by_cases h1:n<0
 ·rw[if_pos (by simp[h1])]
  have:¬N7 row n:=fun h=>by have:=h.1;omega
  simp[this]
 rw[if_neg (by simp;omega)]
 by_cases h2:n>1099511627776
 ·rw[if_pos (by simp;omega)]
  have:¬N7 row n:=fun h=>by have:=h.2.1;omega
  simp[this]
 rw[if_neg (by simp;omega)]
 have hm:(if 100<n then (100:Int) else n)=min 100 n:=by
  split<;>omega
 simp only[Option.bind_some,hm]
 by_cases h3:(row.length:Int)>min 100 n
 ·rw[if_pos (by simp;omega)]
  have:¬N7 row n:=fun h=>by have:=h.2.2.1;have:=h.2.2.2.1;omega
  simp[this]
 rw[if_neg (by simp;omega)]
 rcases XQ row (body:=jy row n) (fun i x=>0≤x∧x<n-(i:Nat)) hr (fun i x hx=>by
   have hi:=(List.getElem?_eq_some_iff.1 hx).1
   unfold jy
   simp only[bu hx,Option.bind_some,cm (show i<4611686018427387904 by omega)]
   rw[if_pos (by simp;omega),wrap64 (by omega) (by omega)]
   by_cases hx0:x<0
   ·rw[if_pos (by simp[hx0]),if_neg (by omega)]
   rw[if_neg (by simp;omega)]
   by_cases hx1:x≥n-(i:Nat)
   ·rw[if_pos (by simp;omega),if_neg (by omega)]
   ·rw[if_neg (by simp;omega),if_pos (by omega)]) (by unfold jy;simp) with⟨h,e⟩|⟨h,e⟩
 ·rw[e]
  have:N7 row n:=⟨by omega,by omega,by omega,by omega,h⟩
  simp[this]
 ·rw[e]
  have:¬N7 row n:=fun k=>h k.2.2.2.2
  simp[this]
end Go.Proofs.YtpkahnkoecbndaaGreatDoor.P.T
namespace Go.Proofs.YtpkahnkoecbndaaGreatDoor.P.T
open Go.RowKit
set_option linter.unusedSimpArgs false
set_option linter.unusedVariables false
theorem xW:maxLen=9223372036854775807:=rfl
theorem kq {α:Type} {B:Nat} {l m:List α} (h1:l.length+m.length≤1000000) (h2:B≤1000000):gC B l m=some (l++m):=by
 unfold gC
 have:=xW
 have h3:(l.length+m.length)*B≤1000000*1000000:=Nat.mul_le_mul h1 h2
 rw[if_pos ⟨by omega,by omega⟩]
theorem UU {α:Type} {B k:Nat} {z:α} (h1:k≤1000000) (h2:B≤1000000):KU B (k:Int) (k:Int) z=some (List.replicate k z):=by
 unfold KU
 have:=xW
 have h3:k*B≤1000000*1000000:=Nat.mul_le_mul h1 h2
 rw[if_pos ⟨by omega,by omega,by omega,by simpa using by omega⟩]
 simp
theorem OK {x m:Int} (hx:0≤x) (hm:m≠0):uA .i64 x m=some (x % m):=by
 unfold uA
 rw[if_neg hm,Int.tmod_eq_emod_of_nonneg hx]
theorem Sf {α:Type} {A B:List α} {i:Nat} {a:α} (hl:A.length=B.length) (ha:A[i]? = some a):(A.take i++B.drop i).set i a=A.take (i+1)++B.drop (i+1):=by
 have hi:=(List.getElem?_eq_some_iff.1 ha).1
 have e1:A.take (i+1)=A.take i++[a]:=by
  rw[List.take_succ_eq_append_getElem hi]
  have:=(List.getElem?_eq_some_iff.1 ha).2
  rw[this]
 have e2:B.drop i=B[i]'(by omega)::B.drop (i+1):=List.drop_eq_getElem_cons (by omega)
 have hlen:(A.take i).length=i:=by simp;omega
 rw[e1,e2,List.set_append_right _ _ (by omega),hlen,Nat.sub_self,List.set_cons_zero,List.append_assoc]
 rfl
theorem Ro {α:Type} {A B:List α} {i:Nat} (hl:A.length=B.length) (hi:i<B.length):(A.take i++B.drop i)[i]? = B[i]?:=by
 have hlen:(A.take i).length=i:=by simp;omega
 rw[List.getElem?_append_right (by omega),hlen,Nat.sub_self,List.getElem?_drop,Nat.add_zero]
def Ia (rows:List (List Int)) (j:Nat):Int:=(rows.map fun r=>r.getD j 0).sum
def tp (rows:List (List Int)) (n:Int) (k:Nat):List Int:=(List.range k).map fun j=>Ia rows j % (n-(j:Nat))
def XK (rows:List (List Int)) (n k:Int):Prop:=0≤k∧k≤100∧k≤n∧n≤1099511627776∧rows.length≤400∧∀r∈rows,(r.length:Int)=k∧N7 r n
theorem yn (rows:List (List Int)) (n:Int) (k:Nat):(tp rows n k).length=k:=by simp[tp]
theorem S6 {rows:List (List Int)} {n:Int} {k j:Nat} (h:j<k):(tp rows n k)[j]? = some (Ia rows j % (n-(j:Nat))):=by simp[tp,h]
theorem OX (rows:List (List Int)) (r:List Int) (j:Nat):Ia (rows++[r]) j=Ia rows j+r.getD j 0:=by simp[Ia]
theorem VN (n:Int) (k:Nat):tp [] n k=List.replicate k 0:=by
 apply List.ext_getElem?
 intro j
 by_cases h:j<k
 ·rw[S6 h];simp[Ia,h]
 ·rw[List.getElem?_eq_none (by rw[yn];omega),List.getElem?_eq_none (by simp;omega)]
theorem Tq {pre:List (List Int)} {row:List Int} {n:Int} {k:Nat} (hk:k≤100) (hkn:(k:Int)≤n) (hn:n≤1099511627776) (hl:row.length=k) (hr:N7 row n) :
  aW (jf n row) (0,tp pre n k)=some (tp (pre++[row]) n k):=by
 have hlen:(tp (pre++[row]) n k).length=(tp pre n k).length:=by rw[yn,yn]
 have:=FK (body:=jf n row) k (fun i=>((i:Int),(tp (pre++[row]) n k).take i++(tp pre n k).drop i)) (r:=tp (pre++[row]) n k) (by omega) (fun i hi=>by
   have hx:row[i]? = some (row[i]'(by omega)):=List.getElem?_eq_getElem (by omega)
   obtain⟨b1,b2⟩:=hr.2.2.2.2 i _ hx
   have hy:=Ro hlen (i:=i) (by rw[yn];exact hi)
   rw[S6 hi]at hy
   have c1:0≤Ia pre i % (n-(i:Nat)):=Int.emod_nonneg _ (by omega)
   have c2:Ia pre i % (n-(i:Nat))<n-(i:Nat):=Int.emod_lt_of_pos _ (by omega)
   unfold jf
   dsimp only
   rw[if_pos (by simp;omega)]
   simp only[bu hx,bu hy,Option.bind_some,cm (show i<4611686018427387904 by omega)]
   rw[wrap64 (by omega) (by omega),wrap64 (by omega) (by omega),OK (by omega) (by omega)]
   simp only[Option.bind_some,Int.toNat_natCast]
   rw[Sf hlen (by
    rw[S6 hi,OX]
    have:row.getD i 0=row[i]'(by omega):=by simp[List.getD,hx]
    rw[this,Int.emod_add_emod])]) (by
   unfold jf
   dsimp only
   rw[if_neg (by simp;omega)]
   have e1:(tp (pre++[row]) n k).take k=tp (pre++[row]) n k:=List.take_of_length_le (by rw[yn];omega)
   have e2:(tp pre n k).drop k=[]:=List.drop_eq_nil_of_le (by rw[yn];omega)
   rw[e1,e2,List.append_nil])
 simpa using this
end Go.Proofs.YtpkahnkoecbndaaGreatDoor.P.T
