/- Part of a proof, made small by a program (wip/mini.py). -/
import Derived.Test.YtpkahnkoecbndaaGreatDoorVe
namespace Go.Proofs.YtpkahnkoecbndaaGreatDoor.Am
open Go.RowKit Go.Proofs.YtpkahnkoecbndaaGreatDoor.P
set_option maxRecDepth 100000
set_option maxHeartbeats 4000000
set_option linter.unusedSimpArgs false
set_option linter.unusedVariables false
theorem z8 (p0:av) (p1:fq) (p2:Int) (p3:aC) (p4:Int) (r:Bool) (hh:fe p0 p1 p2 p3 p4=some r):aS .clean tab jD FU Tryz.f7 none [.agg [.sl false false p0.ag.length (ab aq p0.ag)],.agg [.sl false false p1.aH.length (ab eU p1.aH),.sl false false p1.aP.length (ab (eI .i64) p1.aP),.sl false false p1.aO.length (ab (eI .i64) p1.aO)],.int .u8 p2,.agg [.int .i64 p3.cg,.sl false false p3.bo.length (ab (eI .i64) p3.bo),.str p3.bE,.int .i64 p3.ay,.int .i64 p3.aA],.int .i64 p4]=some (.clean (.bool r),none):=by
 refine aw rfl Tryz.ntmps7 Tryz.results7 ?_
 unfold fe at hh
 obtain⟨r1,hr1,hh⟩:=ae hh
 obtain⟨r2,hr2,hh⟩:=ae hh
 try simp only[ah,seval,-Int.reduceToNat,hr1,hr2]
 obtain⟨o3,ho3,hh⟩:=ae hh
 refine bH 0 (fun s t H e=>match s with|s42j1=>∃v5j1:Nat,∃v6j1:Nat,∃v8j1:Nat,t 2=.int .u8 p2∧t 4=.int .i64 p4∧t 5=.ptr 5 v5j1 0∧t 6=.ptr 6 v6j1 0∧t 8=.ptr 8 v8j1 0∧t 11=.bool r1∧t 42=.bool s42j1∧H 5=some ⟨v5j1,24,[.sl false false p0.ag.length (ab aq p0.ag)],false,false,false⟩∧H 6=some ⟨v6j1,60,[.sl false false p1.aH.length (ab eU p1.aH),.sl false false p1.aP.length (ab (eI .i64) p1.aP),.sl false false p1.aO.length (ab (eI .i64) p1.aO)],false,false,false⟩∧H 8=some ⟨v8j1,67,[.int .i64 p3.cg,.sl false false p3.bo.length (ab (eI .i64) p3.bo),.str p3.bE,.int .i64 p3.ay,.int .i64 p3.aA],false,false,false⟩) (fun s=>s=o3) ?_ ?_
 ·rintro s42j1 t H e ⟨v5j1,v6j1,v8j1,Zj1⟩ rfl
  try dsimp only at hh
  try simp only[ah,seval,-Int.reduceToNat,hr1,hr2,Zj1]
  refine sp an hh (fun _ hh =>?_) (fun _ hh =>?_)
  ·cases hh
   try simp only[ah,seval,-Int.reduceToNat,hr1,hr2,Zj1]
  ·obtain⟨r5,hr5,hh⟩:=ae hh
   try simp only[ah,seval,-Int.reduceToNat,hr1,hr2,Zj1,hr5]
   obtain⟨o6,ho6,hh⟩:=ae hh
   refine bH 0 (fun s t H e=>match s with|s58j2=>∃v6j2:Nat,∃v8j2:Nat,∃v12j2:Nat,t 2=.int .u8 p2∧t 4=.int .i64 p4∧t 6=.ptr 6 v6j2 0∧t 8=.ptr 8 v8j2 0∧t 11=.bool r1∧t 12=.ptr 12 v12j2 0∧t 13=.int .i64 r5.2.1∧t 14=.sl false false r5.2.2.1.length (ab (eI .i64) r5.2.2.1)∧t 58=.bool s58j2∧H 6=some ⟨v6j2,60,[.sl false false p1.aH.length (ab eU p1.aH),.sl false false p1.aP.length (ab (eI .i64) p1.aP),.sl false false p1.aO.length (ab (eI .i64) p1.aO)],false,false,false⟩∧H 8=some ⟨v8j2,67,[.int .i64 p3.cg,.sl false false p3.bo.length (ab (eI .i64) p3.bo),.str p3.bE,.int .i64 p3.ay,.int .i64 p3.aA],false,false,false⟩∧H 12=some ⟨v12j2,24,[.sl false false r5.1.ag.length (ab aq r5.1.ag)],false,false,false⟩) (fun s=>s=o6) ?_ ?_
   ·rintro s58j2 t H e ⟨v6j2,v8j2,v12j2,Zj2⟩ rfl
    try dsimp only at hh
    try simp only[ah,seval,-Int.reduceToNat,hr1,hr2,hr5,Zj2]
    refine sp an hh (fun _ hh =>?_) (fun _ hh =>?_)
    ·cases hh
     try simp only[ah,seval,-Int.reduceToNat,hr1,hr2,hr5,Zj2]
    ·obtain⟨x8,hx8,hh⟩:=ae hh
     have q9:=oR hx8
     obtain⟨x10,hx10,hh⟩:=ae hh
     have ax10:=bF (eI .i64) hx10
     simp only[bU]at ax10
     obtain⟨r11,hr11,hh⟩:=ae hh
     obtain⟨r12,hr12,hh⟩:=ae hh
     have ax10:=bF (eI .i64) hx10
     simp only[bU]at ax10
     obtain⟨r13,hr13,hh⟩:=ae hh
     try simp only[ah,seval,-Int.reduceToNat,hr1,hr2,hr5,Zj2,q9,ax10,hr11,hr12,ax10,hr13]
     obtain⟨o14,ho14,hh⟩:=ae hh
     refine kX 0 (fun s t H e=>match s with|s20j3=>∃v6j3:Nat,∃v8j3:Nat,∃v12j3:Nat,∃v19j3:Nat,t 4=.int .i64 p4∧t 6=.ptr 6 v6j3 0∧t 8=.ptr 8 v8j3 0∧t 11=.bool r1∧t 12=.ptr 12 v12j3 0∧t 13=.int .i64 r5.2.1∧t 14=.sl false false r5.2.2.1.length (ab (eI .i64) r5.2.2.1)∧t 16=.int .i64 x8∧t 17=.int .i64 r11∧t 18=.int .i64 r12∧t 19=.buf 19 v19j3 1 0 1∧t 20=.bool s20j3∧H 6=some ⟨v6j3,60,[.sl false false p1.aH.length (ab eU p1.aH),.sl false false p1.aP.length (ab (eI .i64) p1.aP),.sl false false p1.aO.length (ab (eI .i64) p1.aO)],false,false,false⟩∧H 8=some ⟨v8j3,67,[.int .i64 x10,.sl false false p3.bo.length (ab (eI .i64) p3.bo),.str p3.bE,.int .i64 p3.ay,.int .i64 p3.aA],false,false,false⟩∧H 12=some ⟨v12j3,24,[.sl false false r5.1.ag.length (ab aq r5.1.ag)],false,false,false⟩∧H 19=some ⟨v19j3,3,[.int .i64 x10],false,true,false⟩) (fun s=>s=o14) ?_ ?_
     ·rintro s20j3 t H e ⟨v6j3,v8j3,v12j3,v19j3,Zj3⟩ rfl
      try dsimp only at hh
      try simp only[ah,seval,-Int.reduceToNat,hr1,hr2,hr5,q9,ax10,hr11,hr12,ax10,hr13,Zj3]
      obtain⟨o15,ho15,hh⟩:=ae hh
      refine C8 0 (fun s t H e=>match s with|s21j4=>∃v6j4:Nat,∃v8j4:Nat,∃v12j4:Nat,∃v19j4:Nat,t 4=.int .i64 p4∧t 6=.ptr 6 v6j4 0∧t 8=.ptr 8 v8j4 0∧t 11=.bool r1∧t 12=.ptr 12 v12j4 0∧t 13=.int .i64 r5.2.1∧t 14=.sl false false r5.2.2.1.length (ab (eI .i64) r5.2.2.1)∧t 16=.int .i64 x8∧t 17=.int .i64 r11∧t 18=.int .i64 r12∧t 19=.buf 19 v19j4 1 0 1∧t 21=.bool s21j4∧H 6=some ⟨v6j4,60,[.sl false false p1.aH.length (ab eU p1.aH),.sl false false p1.aP.length (ab (eI .i64) p1.aP),.sl false false p1.aO.length (ab (eI .i64) p1.aO)],false,false,false⟩∧H 8=some ⟨v8j4,67,[.int .i64 x10,.sl false false p3.bo.length (ab (eI .i64) p3.bo),.str p3.bE,.int .i64 p3.ay,.int .i64 p3.aA],false,false,false⟩∧H 12=some ⟨v12j4,24,[.sl false false r5.1.ag.length (ab aq r5.1.ag)],false,false,false⟩∧H 19=some ⟨v19j4,3,[.int .i64 x10],false,true,false⟩) (fun s=>s=o15) ?_ ?_
      ·rintro s21j4 t H e ⟨v6j4,v8j4,v12j4,v19j4,Zj4⟩ rfl
       try dsimp only at hh
       have i16:=dH r5.1.ag r5.2.1 r11 r12 ([x10]) ([(aC.mk x10 p3.bo p3.bE p3.ay p3.aA)]) ([])
       simp only[aM,bU,List.length_cons,List.length_nil,Nat.zero_add,Nat.reduceAdd,List.length_set]at i16
       obtain⟨r17,hr17,hh⟩:=ae hh
       try simp only[ah,seval,-Int.reduceToNat,hr1,hr2,hr5,q9,ax10,hr11,hr12,ax10,hr13,Zj4,i16,hr17]
       obtain⟨o18,ho18,hh⟩:=ae hh
       refine bH 0 (fun s t H e=>match s with|s157j5=>∃v6j5:Nat,∃v12j5:Nat,∃v19j5:Nat,t 4=.int .i64 p4∧t 6=.ptr 6 v6j5 0∧t 11=.bool r1∧t 12=.ptr 12 v12j5 0∧t 13=.int .i64 r5.2.1∧t 14=.sl false false r5.2.2.1.length (ab (eI .i64) r5.2.2.1)∧t 16=.int .i64 x8∧t 17=.int .i64 r11∧t 18=.int .i64 r12∧t 19=.buf 19 v19j5 1 0 1∧t 21=.bool s21j4∧t 22=.sl false false r17.1.length (ab cf r17.1)∧t 157=.bool s157j5∧H 6=some ⟨v6j5,60,[.sl false false p1.aH.length (ab eU p1.aH),.sl false false p1.aP.length (ab (eI .i64) p1.aP),.sl false false p1.aO.length (ab (eI .i64) p1.aO)],false,false,false⟩∧H 12=some ⟨v12j5,24,[.sl false false r5.1.ag.length (ab aq r5.1.ag)],false,false,false⟩∧H 19=some ⟨v19j5,3,[.int .i64 x10],true,true,false⟩) (fun s=>s=o18) ?_ ?_
       ·rintro s157j5 t H e ⟨v6j5,v12j5,v19j5,Zj5⟩ rfl
        try dsimp only at hh
        try simp only[ah,seval,-Int.reduceToNat,hr1,hr2,hr5,q9,ax10,hr11,hr12,ax10,hr13,i16,hr17,Zj5]
        refine sp an hh (fun _ hh =>?_) (fun _ hh =>?_)
        ·cases hh
         try simp only[ah,seval,-Int.reduceToNat,hr1,hr2,hr5,q9,ax10,hr11,hr12,ax10,hr13,i16,hr17,Zj5]
        ·try simp only[ah,seval,-Int.reduceToNat,hr1,hr2,hr5,q9,ax10,hr11,hr12,ax10,hr13,i16,hr17,Zj5]
         obtain⟨o20,ho20,hh⟩:=ae hh
         refine bH 0 (fun s t H e=>match s with|s170j6=>∃v6j6:Nat,∃v12j6:Nat,∃v19j6:Nat,t 4=.int .i64 p4∧t 6=.ptr 6 v6j6 0∧t 11=.bool r1∧t 12=.ptr 12 v12j6 0∧t 13=.int .i64 r5.2.1∧t 14=.sl false false r5.2.2.1.length (ab (eI .i64) r5.2.2.1)∧t 16=.int .i64 x8∧t 17=.int .i64 r11∧t 18=.int .i64 r12∧t 19=.buf 19 v19j6 1 0 1∧t 170=.bool s170j6∧H 6=some ⟨v6j6,60,[.sl false false p1.aH.length (ab eU p1.aH),.sl false false p1.aP.length (ab (eI .i64) p1.aP),.sl false false p1.aO.length (ab (eI .i64) p1.aO)],false,false,false⟩∧H 12=some ⟨v12j6,24,[.sl false false r5.1.ag.length (ab aq r5.1.ag)],false,false,false⟩∧H 19=some ⟨v19j6,3,[.int .i64 x10],true,true,false⟩) (fun s=>s=o20) ?_ ?_
         ·rintro s170j6 t H e ⟨v6j6,v12j6,v19j6,Zj6⟩ rfl
          try dsimp only at hh
          try simp only[ah,seval,-Int.reduceToNat,hr1,hr2,hr5,q9,ax10,hr11,hr12,ax10,hr13,i16,hr17,Zj6]
          refine sp an hh (fun _ hh =>?_) (fun _ hh =>?_)
          ·cases hh
           try simp only[ah,seval,-Int.reduceToNat,hr1,hr2,hr5,q9,ax10,hr11,hr12,ax10,hr13,i16,hr17,Zj6]
          ·have i22:=dH r5.1.ag r5.2.1 r11 r12 ([x10]) ([]) ([])
           simp only[aM,bU,List.length_cons,List.length_nil,Nat.zero_add,Nat.reduceAdd,List.length_set]at i22
           obtain⟨r23,hr23,hh⟩:=ae hh
           try simp only[ah,seval,-Int.reduceToNat,hr1,hr2,hr5,q9,ax10,hr11,hr12,ax10,hr13,i16,hr17,Zj6,i22,hr23]
           obtain⟨o24,ho24,hh⟩:=ae hh
           refine bH 0 (fun s t H e=>match s with|s192j7=>∃v6j7:Nat,∃v12j7:Nat,∃v19j7:Nat,t 4=.int .i64 p4∧t 6=.ptr 6 v6j7 0∧t 11=.bool r1∧t 12=.ptr 12 v12j7 0∧t 13=.int .i64 r5.2.1∧t 14=.sl false false r5.2.2.1.length (ab (eI .i64) r5.2.2.1)∧t 16=.int .i64 x8∧t 17=.int .i64 r11∧t 18=.int .i64 r12∧t 19=.buf 19 v19j7 1 0 1∧t 192=.bool s192j7∧H 6=some ⟨v6j7,60,[.sl false false p1.aH.length (ab eU p1.aH),.sl false false p1.aP.length (ab (eI .i64) p1.aP),.sl false false p1.aO.length (ab (eI .i64) p1.aO)],false,false,false⟩∧H 12=some ⟨v12j7,24,[.sl false false r5.1.ag.length (ab aq r5.1.ag)],false,false,false⟩∧H 19=some ⟨v19j7,3,[.int .i64 x10],true,true,false⟩) (fun s=>s=o24) ?_ ?_
           ·rintro s192j7 t H e ⟨v6j7,v12j7,v19j7,Zj7⟩ rfl
            try dsimp only at hh
            try simp only[ah,seval,-Int.reduceToNat,hr1,hr2,hr5,q9,ax10,hr11,hr12,ax10,hr13,i16,hr17,i22,hr23,Zj7]
            refine sp an hh (fun _ hh =>?_) (fun _ hh =>?_)
            ·cases hh
             try simp only[ah,seval,-Int.reduceToNat,hr1,hr2,hr5,q9,ax10,hr11,hr12,ax10,hr13,i16,hr17,i22,hr23,Zj7]
            ·try simp only[ah,seval,-Int.reduceToNat,hr1,hr2,hr5,q9,ax10,hr11,hr12,ax10,hr13,i16,hr17,i22,hr23,Zj7]
             refine sp an hh (fun _ hh =>?_) (fun _ hh =>?_)
             ·cases hh
              try simp only[ah,seval,-Int.reduceToNat,hr1,hr2,hr5,q9,ax10,hr11,hr12,ax10,hr13,i16,hr17,i22,hr23,Zj7]
             ·obtain⟨r27,hr27,hh⟩:=ae hh
              have i28:=dH r5.1.ag r5.2.1 p4 r12 ([x10]) ([r27]) ([])
              simp only[aM,bU,List.length_cons,List.length_nil,Nat.zero_add,Nat.reduceAdd,List.length_set]at i28
              obtain⟨r29,hr29,hh⟩:=ae hh
              try simp only[ah,seval,-Int.reduceToNat,hr1,hr2,hr5,q9,ax10,hr11,hr12,ax10,hr13,i16,hr17,i22,hr23,Zj7,hr27,i28,hr29]
              refine bX (by kernel_rfl) ?_
              try simp only[ah,seval,-Int.reduceToNat,hr1,hr2,hr5,q9,ax10,hr11,hr12,ax10,hr13,i16,hr17,i22,hr23,Zj7,hr27,i28,hr29]
              refine sp bk hh (fun _ hh =>?_) (fun _ hh =>?_)
              ·try simp only[ah,seval,-Int.reduceToNat,hr1,hr2,hr5,q9,ax10,hr11,hr12,ax10,hr13,i16,hr17,i22,hr23,Zj7,hr27,i28,hr29]
               refine sp bk hh (fun _ hh =>?_) (fun _ hh =>?_)
               ·have ax10:=bF (eI .i64) hx10
                simp only[bU]at ax10
                have i32:=jP r29.1 ([(bn.mk x10 1)])
                simp only[aM,bU,List.length_cons,List.length_nil,Nat.zero_add,Nat.reduceAdd,List.length_set]at i32
                obtain⟨r33,hr33,hh⟩:=ae hh
                cases hh
                try simp only[ah,seval,-Int.reduceToNat,hr1,hr2,hr5,q9,ax10,hr11,hr12,ax10,hr13,i16,hr17,i22,hr23,Zj7,hr27,i28,hr29,ax10,i32,hr33]
               ·cases hh
                try simp only[ah,seval,-Int.reduceToNat,hr1,hr2,hr5,q9,ax10,hr11,hr12,ax10,hr13,i16,hr17,i22,hr23,Zj7,hr27,i28,hr29]
              ·cases hh
               try simp only[ah,seval,-Int.reduceToNat,hr1,hr2,hr5,q9,ax10,hr11,hr12,ax10,hr13,i16,hr17,i22,hr23,Zj7,hr27,i28,hr29]
           ·clear hh
            have hh:=ho24
            try simp only[ah,seval,-Int.reduceToNat,hr1,hr2,hr5,q9,ax10,hr11,hr12,ax10,hr13,i16,hr17,Zj6,i22,hr23]
            refine sp aR hh (fun _ hh =>?_) (fun _ hh =>?_)
            ·cases hh
             try simp only[ah,seval,-Int.reduceToNat,hr1,hr2,hr5,q9,ax10,hr11,hr12,ax10,hr13,i16,hr17,Zj6,i22,hr23]
             rw[al]
             refine⟨_,rfl,?_⟩
             refine⟨v6j6,v12j6,v19j6,?_,?_,?_,?_,?_,?_,?_,?_,?_,?_,?_,?_,?_,?_⟩
             all_goals first|rfl|(simp only[ah,seval,-Int.reduceToNat,hr1,hr2,hr5,q9,ax10,hr11,hr12,ax10,hr13,i16,hr17,Zj6,i22,hr23]<;>rfl)
            ·have ax10:=bF (eI .i64) hx10
             simp only[bU]at ax10
             have i35:=jP r23.1 ([(bn.mk x10 0)])
             simp only[aM,bU,List.length_cons,List.length_nil,Nat.zero_add,Nat.reduceAdd,List.length_set]at i35
             obtain⟨r36,hr36,hh⟩:=ae hh
             cases hh
             try simp only[ah,seval,-Int.reduceToNat,hr1,hr2,hr5,q9,ax10,hr11,hr12,ax10,hr13,i16,hr17,Zj6,i22,hr23,ax10,i35,hr36]
             rw[al]
             refine⟨_,rfl,?_⟩
             refine⟨v6j6,v12j6,v19j6,?_,?_,?_,?_,?_,?_,?_,?_,?_,?_,?_,?_,?_,?_⟩
             all_goals first|rfl|(simp only[ah,seval,-Int.reduceToNat,hr1,hr2,hr5,q9,ax10,hr11,hr12,ax10,hr13,i16,hr17,Zj6,i22,hr23,ax10,i35,hr36]<;>rfl)
         ·clear hh
          have hh:=ho20
          try simp only[ah,seval,-Int.reduceToNat,hr1,hr2,hr5,q9,ax10,hr11,hr12,ax10,hr13,i16,hr17,Zj5]
          refine sp bk hh (fun _ hh =>?_) (fun _ hh =>?_)
          ·have ax10:=bF (eI .i64) hx10
           simp only[bU]at ax10
           have i38:=jP r17.1 ([(bn.mk x10 1)])
           simp only[aM,bU,List.length_cons,List.length_nil,Nat.zero_add,Nat.reduceAdd,List.length_set]at i38
           obtain⟨r39,hr39,hh⟩:=ae hh
           cases hh
           try simp only[ah,seval,-Int.reduceToNat,hr1,hr2,hr5,q9,ax10,hr11,hr12,ax10,hr13,i16,hr17,Zj5,ax10,i38,hr39]
           rw[al]
           refine⟨_,rfl,?_⟩
           refine⟨v6j5,v12j5,v19j5,?_,?_,?_,?_,?_,?_,?_,?_,?_,?_,?_,?_,?_,?_⟩
           all_goals first|rfl|(simp only[ah,seval,-Int.reduceToNat,hr1,hr2,hr5,q9,ax10,hr11,hr12,ax10,hr13,i16,hr17,Zj5,ax10,i38,hr39]<;>rfl)
          ·cases hh
           try simp only[ah,seval,-Int.reduceToNat,hr1,hr2,hr5,q9,ax10,hr11,hr12,ax10,hr13,i16,hr17,Zj5]
           rw[al]
           refine⟨_,rfl,?_⟩
           refine⟨v6j5,v12j5,v19j5,?_,?_,?_,?_,?_,?_,?_,?_,?_,?_,?_,?_,?_,?_⟩
           all_goals first|rfl|(simp only[ah,seval,-Int.reduceToNat,hr1,hr2,hr5,q9,ax10,hr11,hr12,ax10,hr13,i16,hr17,Zj5]<;>rfl)
       ·clear hh
        have hh:=ho18
        try simp only[ah,seval,-Int.reduceToNat,hr1,hr2,hr5,q9,ax10,hr11,hr12,ax10,hr13,Zj4,i16,hr17]
        refine sp aR hh (fun _ hh =>?_) (fun _ hh =>?_)
        ·cases hh
         try simp only[ah,seval,-Int.reduceToNat,hr1,hr2,hr5,q9,ax10,hr11,hr12,ax10,hr13,Zj4,i16,hr17]
         rw[al]
         refine⟨_,rfl,?_⟩
         refine⟨v6j4,v12j4,v19j4,?_,?_,?_,?_,?_,?_,?_,?_,?_,?_,?_,?_,?_,?_,?_,?_⟩
         all_goals first|rfl|(simp only[ah,seval,-Int.reduceToNat,hr1,hr2,hr5,q9,ax10,hr11,hr12,ax10,hr13,Zj4,i16,hr17]<;>rfl)
        ·cases hh
         try simp only[ah,seval,-Int.reduceToNat,hr1,hr2,hr5,q9,ax10,hr11,hr12,ax10,hr13,Zj4,i16,hr17]
         rw[al]
         refine⟨_,rfl,?_⟩
         refine⟨v6j4,v12j4,v19j4,?_,?_,?_,?_,?_,?_,?_,?_,?_,?_,?_,?_,?_,?_,?_,?_⟩
         all_goals first|rfl|(simp only[ah,seval,-Int.reduceToNat,hr1,hr2,hr5,q9,ax10,hr11,hr12,ax10,hr13,Zj4,i16,hr17]<;>rfl)
      ·clear hh
       have hh:=ho15
       try simp only[ah,seval,-Int.reduceToNat,hr1,hr2,hr5,q9,ax10,hr11,hr12,ax10,hr13,Zj3]
       refine sp ji hh (fun _ hh =>?_) (fun _ hh =>?_)
       ·obtain⟨x42,hx42,hh⟩:=ae hh
        have ax42:=bF eU hx42
        simp only[bU]at ax42
        try simp only[ah,seval,-Int.reduceToNat,hr1,hr2,hr5,q9,ax10,hr11,hr12,ax10,hr13,Zj3,ax42]
        refine sp ji hh (fun _ hh =>?_) (fun _ hh =>?_)
        ·obtain⟨x44,hx44,hh⟩:=ae hh
         have ax44:=bF (eI .i64) hx44
         simp only[bU]at ax44
         try simp only[ah,seval,-Int.reduceToNat,hr1,hr2,hr5,q9,ax10,hr11,hr12,ax10,hr13,Zj3,ax42,ax44]
         refine sp ji hh (fun _ hh =>?_) (fun _ hh =>?_)
         ·obtain⟨x46,hx46,hh⟩:=ae hh
          have ax46:=bF (eI .i64) hx46
          simp only[bU]at ax46
          try simp only[ah,seval,-Int.reduceToNat,hr1,hr2,hr5,q9,ax10,hr11,hr12,ax10,hr13,Zj3,ax42,ax44,ax46]
          refine bX (by kernel_rfl) ?_
          cases hh
          try simp only[ah,seval,-Int.reduceToNat,hr1,hr2,hr5,q9,ax10,hr11,hr12,ax10,hr13,Zj3,ax42,ax44,ax46]
          rw[al]
          refine⟨_,rfl,?_⟩
          refine⟨v6j3,v8j3,v12j3,v19j3,?_,?_,?_,?_,?_,?_,?_,?_,?_,?_,?_,?_,?_,?_,?_,?_⟩
          all_goals first|rfl|(simp only[ah,seval,-Int.reduceToNat,hr1,hr2,hr5,q9,ax10,hr11,hr12,ax10,hr13,Zj3,ax42,ax44,ax46]<;>rfl)
         ·try simp only[ah,seval,-Int.reduceToNat,hr1,hr2,hr5,q9,ax10,hr11,hr12,ax10,hr13,Zj3,ax42,ax44]
          refine bX (by kernel_rfl) ?_
          cases hh
          try simp only[ah,seval,-Int.reduceToNat,hr1,hr2,hr5,q9,ax10,hr11,hr12,ax10,hr13,Zj3,ax42,ax44]
          rw[al]
          refine⟨_,rfl,?_⟩
          refine⟨v6j3,v8j3,v12j3,v19j3,?_,?_,?_,?_,?_,?_,?_,?_,?_,?_,?_,?_,?_,?_,?_,?_⟩
          all_goals first|rfl|(simp only[ah,seval,-Int.reduceToNat,hr1,hr2,hr5,q9,ax10,hr11,hr12,ax10,hr13,Zj3,ax42,ax44]<;>rfl)
        ·try simp only[ah,seval,-Int.reduceToNat,hr1,hr2,hr5,q9,ax10,hr11,hr12,ax10,hr13,Zj3,ax42]
         refine bX (by kernel_rfl) ?_
         cases hh
         try simp only[ah,seval,-Int.reduceToNat,hr1,hr2,hr5,q9,ax10,hr11,hr12,ax10,hr13,Zj3,ax42]
         rw[al]
         refine⟨_,rfl,?_⟩
         refine⟨v6j3,v8j3,v12j3,v19j3,?_,?_,?_,?_,?_,?_,?_,?_,?_,?_,?_,?_,?_,?_,?_,?_⟩
         all_goals first|rfl|(simp only[ah,seval,-Int.reduceToNat,hr1,hr2,hr5,q9,ax10,hr11,hr12,ax10,hr13,Zj3,ax42]<;>rfl)
       ·try simp only[ah,seval,-Int.reduceToNat,hr1,hr2,hr5,q9,ax10,hr11,hr12,ax10,hr13,Zj3]
        refine bX (by kernel_rfl) ?_
        cases hh
        try simp only[ah,seval,-Int.reduceToNat,hr1,hr2,hr5,q9,ax10,hr11,hr12,ax10,hr13,Zj3]
        rw[al]
        refine⟨_,rfl,?_⟩
        refine⟨v6j3,v8j3,v12j3,v19j3,?_,?_,?_,?_,?_,?_,?_,?_,?_,?_,?_,?_,?_,?_,?_,?_⟩
        all_goals first|rfl|(simp only[ah,seval,-Int.reduceToNat,hr1,hr2,hr5,q9,ax10,hr11,hr12,ax10,hr13,Zj3]<;>rfl)
     ·clear hh
      have hh:=ho14
      try simp only[ah,seval,-Int.reduceToNat,hr1,hr2,hr5,Zj2,q9,ax10,hr11,hr12,ax10,hr13]
      refine sp an hh (fun _ hh =>?_) (fun _ hh =>?_)
      ·obtain⟨x48,hx48,hh⟩:=ae hh
       have ax48:=bF (eI .i64) hx48
       simp only[bU]at ax48
       try simp only[ah,seval,-Int.reduceToNat,hr1,hr2,hr5,Zj2,q9,ax10,hr11,hr12,ax10,hr13,ax48]
       refine sp ji hh (fun _ hh =>?_) (fun _ hh =>?_)
       ·obtain⟨x50,hx50,hh⟩:=ae hh
        have ax50:=bF (eI .i64) hx50
        simp only[bU]at ax50
        have ax10:=bF (eI .i64) hx10
        simp only[bU]at ax10
        try simp only[ah,seval,-Int.reduceToNat,hr1,hr2,hr5,Zj2,q9,ax10,hr11,hr12,ax10,hr13,ax48,ax50,ax10]
        refine bX (by kernel_rfl) ?_
        cases hh
        try simp only[ah,seval,-Int.reduceToNat,hr1,hr2,hr5,Zj2,q9,ax10,hr11,hr12,ax10,hr13,ax48,ax50,ax10]
        rw[al]
        refine⟨_,rfl,?_⟩
        refine⟨v6j2,v8j2,v12j2,e+1+1+1+1,?_,?_,?_,?_,?_,?_,?_,?_,?_,?_,?_,?_,?_,?_,?_,?_⟩
        all_goals first|rfl|(simp only[ah,seval,-Int.reduceToNat,hr1,hr2,hr5,Zj2,q9,ax10,hr11,hr12,ax10,hr13,ax48,ax50,ax10]<;>rfl)
       ·try simp only[ah,seval,-Int.reduceToNat,hr1,hr2,hr5,Zj2,q9,ax10,hr11,hr12,ax10,hr13,ax48]
        refine bX (by kernel_rfl) ?_
        cases hh
        try simp only[ah,seval,-Int.reduceToNat,hr1,hr2,hr5,Zj2,q9,ax10,hr11,hr12,ax10,hr13,ax48]
        rw[al]
        refine⟨_,rfl,?_⟩
        refine⟨v6j2,v8j2,v12j2,e+1+1+1+1,?_,?_,?_,?_,?_,?_,?_,?_,?_,?_,?_,?_,?_,?_,?_,?_⟩
        all_goals first|rfl|(simp only[ah,seval,-Int.reduceToNat,hr1,hr2,hr5,Zj2,q9,ax10,hr11,hr12,ax10,hr13,ax48]<;>rfl)
      ·cases hh
       try simp only[ah,seval,-Int.reduceToNat,hr1,hr2,hr5,Zj2,q9,ax10,hr11,hr12,ax10,hr13]
       rw[al]
       refine⟨_,rfl,?_⟩
       refine⟨v6j2,v8j2,v12j2,e+1+1+1+1,?_,?_,?_,?_,?_,?_,?_,?_,?_,?_,?_,?_,?_,?_,?_,?_⟩
       all_goals first|rfl|(simp only[ah,seval,-Int.reduceToNat,hr1,hr2,hr5,Zj2,q9,ax10,hr11,hr12,ax10,hr13]<;>rfl)
   ·clear hh
    have hh:=ho6
    try simp only[ah,seval,-Int.reduceToNat,hr1,hr2,Zj1,hr5]
    refine sp aR hh (fun _ hh =>?_) (fun _ hh =>?_)
    ·cases hh
     try simp only[ah,seval,-Int.reduceToNat,hr1,hr2,Zj1,hr5]
     rw[al]
     refine⟨_,rfl,?_⟩
     refine⟨v6j1,v8j1,e,?_,?_,?_,?_,?_,?_,?_,?_,?_,?_,?_,?_⟩
     all_goals first|rfl|(simp only[ah,seval,-Int.reduceToNat,hr1,hr2,Zj1,hr5]<;>rfl)
    ·cases hh
     try simp only[ah,seval,-Int.reduceToNat,hr1,hr2,Zj1,hr5]
     rw[al]
     refine⟨_,rfl,?_⟩
     refine⟨v6j1,v8j1,e,?_,?_,?_,?_,?_,?_,?_,?_,?_,?_,?_,?_⟩
     all_goals first|rfl|(simp only[ah,seval,-Int.reduceToNat,hr1,hr2,Zj1,hr5]<;>rfl)
 ·clear hh
  have hh:=ho3
  try simp only[ah,seval,-Int.reduceToNat,hr1,hr2]
  refine sp aR hh (fun _ hh =>?_) (fun _ hh =>?_)
  ·cases hh
   try simp only[ah,seval,-Int.reduceToNat,hr1,hr2]
   rw[al]
   refine⟨_,rfl,?_⟩
   refine⟨0,0,0,?_,?_,?_,?_,?_,?_,?_,?_,?_,?_⟩
   all_goals first|rfl|(simp only[ah,seval,-Int.reduceToNat,hr1,hr2]<;>rfl)
  ·obtain⟨r53,hr53,hh⟩:=ae hh
   try simp only[ah,seval,-Int.reduceToNat,hr1,hr2,hr53]
   refine sp aR hh (fun _ hh =>?_) (fun _ hh =>?_)
   ·cases hh
    try simp only[ah,seval,-Int.reduceToNat,hr1,hr2,hr53]
    rw[al]
    refine⟨_,rfl,?_⟩
    refine⟨0,0,0,?_,?_,?_,?_,?_,?_,?_,?_,?_,?_⟩
    all_goals first|rfl|(simp only[ah,seval,-Int.reduceToNat,hr1,hr2,hr53]<;>rfl)
   ·have i55:=yy ([p3]) ([])
    simp only[aM,bU,List.length_cons,List.length_nil,Nat.zero_add,Nat.reduceAdd,List.length_set]at i55
    obtain⟨r56,hr56,hh⟩:=ae hh
    cases hh
    try simp only[ah,seval,-Int.reduceToNat,hr1,hr2,hr53,i55,hr56]
    rw[al]
    refine⟨_,rfl,?_⟩
    refine⟨0,0,0,?_,?_,?_,?_,?_,?_,?_,?_,?_,?_⟩
    all_goals first|rfl|(simp only[ah,seval,-Int.reduceToNat,hr1,hr2,hr53,i55,hr56]<;>rfl)
theorem yr:bN Tryz.prog 7 zT:=bN.of (mode := .clean) tok ye mixed Tryz.func7 (by kernel_rfl) ⟨by kernel_rfl,by kernel_rfl⟩ (fun _=>Nat.le_of_ble_eq_true (by kernel_rfl)) (fun x r h=>z8 x.1 x.2.1 x.2.2.1 x.2.2.2.1 x.2.2.2.2 r h)
end Go.Proofs.YtpkahnkoecbndaaGreatDoor.Am
namespace Go.Proofs.YtpkahnkoecbndaaGreatDoor.Am
open Go.ChangeShapes Go.WideShapes Go.ChangeAt Go.RowKit Go.Proofs.YtpkahnkoecbndaaGreatDoor.P
set_option maxRecDepth 100000
set_option linter.unusedVariables false
theorem Tryz.own:ownKnob Tryz.prog.godebug=none:=by kernel_rfl
theorem Tryz.laidOut:laidOutB Tryz.prog=true:=by kernel_rfl
theorem Wq (n:Nat):H3 tab (n+1) 9 eU (fun x=>x.size≤140737488351232):=Xp Pr rfl rfl
theorem KO (n:Nat):H3 tab (n+1) 3 (eI .i64) (fun x=>(Lit.int .i64 x).wf=true):=Zn Ll rfl rfl
def yp (x:ak):Prop:=x.bE.size≤140737488351232∧((Lit.int .i64 x.ay).wf=true∧((Lit.int .i64 x.aA).wf=true∧((Lit.int .i64 x.aY).wf=true∧((Lit.int .i64 x.aQ).wf=true))))
theorem Xv (n:Nat):H3 tab (n+2) 87 aq (fun x=>yp x):=Ys (g:=fun y=>ak.mk y.1 y.2.1 y.2.2.1 y.2.2.2.1 y.2.2.2.2) HT rfl rfl (fun _=>rfl) (D2 (Wq n) rfl (D2 (KO n) rfl (D2 (KO n) rfl (D2 (KO n) rfl (UO (KO n))))))
theorem Xq (n:Nat):H3 tab (n+3) 22 (rG aq) (fun x=>(x.length*48≤140737488351232∧∀y∈x,yp y)):=Wp M6 rfl rfl (by rw[HT];rfl) (Xv n)
def pP (x:av):Prop:=(x.ag.length*48≤140737488351232∧∀y∈x.ag,yp y)
theorem Xr (n:Nat):H3 tab (n+4) 24 dx (fun x=>pP x):=Ys (g:=fun y=>av.mk y) HQ rfl rfl (fun _=>rfl) (UO (Xq n))
theorem SI (n:Nat):H3 tab (n+2) 25 (rG (eI .i64)) (fun x=>(x.length*8≤140737488351232∧∀y∈x,(Lit.int .i64 y).wf=true)):=Wp M7 rfl rfl (by rw[Ll];rfl) (KO n)
def mc (x:aC):Prop:=(Lit.int .i64 x.cg).wf=true∧((x.bo.length*8≤140737488351232∧∀y∈x.bo,(Lit.int .i64 y).wf=true)∧(x.bE.size≤140737488351232∧((Lit.int .i64 x.ay).wf=true∧((Lit.int .i64 x.aA).wf=true))))
theorem Xu (n:Nat):H3 tab (n+3) 67 bt (fun x=>mc x):=Ys (g:=fun y=>aC.mk y.1 y.2.1 y.2.2.1 y.2.2.2.1 y.2.2.2.2) HS rfl rfl (fun _=>rfl) (D2 (KO (n+1)) rfl (D2 (SI n) rfl (D2 (Wq (n+1)) rfl (D2 (KO (n+1)) rfl (UO (KO (n+1)))))))
theorem Xs (n:Nat):H3 tab (n+2) 58 (rG eU) (fun x=>(x.length*16≤140737488351232∧∀y∈x,y.size≤140737488351232)):=Wp M8 rfl rfl (by rw[Pr];rfl) (Wq n)
def tn (x:fq):Prop:=(x.aH.length*16≤140737488351232∧∀y∈x.aH,y.size≤140737488351232)∧((x.aP.length*8≤140737488351232∧∀y∈x.aP,(Lit.int .i64 y).wf=true)∧((x.aO.length*8≤140737488351232∧∀y∈x.aO,(Lit.int .i64 y).wf=true)))
theorem Xt (n:Nat):H3 tab (n+3) 60 sP (fun x=>tn x):=Ys (g:=fun y=>fq.mk y.1 y.2.1 y.2.2) HR rfl rfl (fun _=>rfl) (D2 (Xs n) rfl (D2 (SI n) rfl (UO (SI n))))
theorem uN:QW tab 5 [24,60,5,67,3] (dR (cR dx) (dR (cR sP) (dR (aI .u8) (dR (cR bt) (dK (aI .i64)))))) (fun x=>pP x.1∧(tn x.2.1∧((Lit.int .u8 x.2.2.1).wf=true∧(mc x.2.2.2.1∧((Lit.int .i64 x.2.2.2.2).wf=true))))):=(UJ (YJ HQ rfl (Xr 1)) (UJ (YJ HR rfl (Xt 2)) (UJ (YY Tr rfl) (UJ (YJ HS rfl (Xu 2)) (YK (YY Ll rfl))))))
theorem te (law:∀(a0:av) (a1:fq) (a2:Int) (a3:aC) (a4:Int),(pP a0)→(tn a1)→((Lit.int .u8 a2).wf=true)→(mc a3)→((Lit.int .i64 a4).wf=true)→P.fe a0 a1 a2 a3 a4=some true) (os:Os) (started:os.Started) (H:Type) (enc:TypeId×Value→H) :
  ReturnsInHanded {} Tryz.checked os 7 .any (fun w args=>(Rows.auditLiesSpec.pre enc Tryz.prog Tryz.f7 Rows.auditLiesRow.domain false w args∧laidMetH Tryz.prog JR w)∧sizedMet enc Tryz.prog Tryz.f7 (OpenSpec.ofChange Rows.auditLiesSpec) false w args) (Rows.auditLiesSpec.post enc Tryz.prog Tryz.f7 false true false false):=by
 refine SU (C:=Tryz.checked) (X:=fun w _=>laidMetH Tryz.prog JR w) (fun _ _ _ hh h=>h.of_heap hh) (fun _ _ h=>Sh h) (T:=tab) (tb:=4) (n:=5) tok Tryz.own started (by kernel_rfl) Tryz.func7
  (ChangeSpec.witness_shaped (enc:=enc) (C:=Tryz.checked) (os:=os) (X:=fun w _=>laidMetH Tryz.prog JR w) false (World.doorLaid Tryz.prog 400 os) #[.agg #[.slice none 0 0],.agg #[.slice none 0 0,.slice none 0 0,.slice none 0 0],.int .u8 0,.agg #[.int .i64 0,.slice none 0 0,.string ⟨#[]⟩,.int .i64 0,.int .i64 0],.int .i64 0] 8 rfl (World.shaped_of_RefB (by kernel_rfl) (by kernel_rfl)) (by kernel_rfl) (by kernel_rfl) (by kernel_rfl) (RN os _)) Tryz.laidOut (by kernel_rfl) rfl (by kernel_rfl) rfl (fun ds hds =>?_) (fun ar hl hs =>?_)
 ·rw[Tryz.params7]at hds
  match ds,hds with
  | [d0,d1,d2,d3,d4],_=>exact⟨rfl,rfl,rfl⟩
 ·rw[Tryz.params7]at hl hs
  exact Wi uN yr (fun x hx=>law x.1 x.2.1 x.2.2.1 x.2.2.2.1 x.2.2.2.2 hx.1 hx.2.1 hx.2.2.1 hx.2.2.2.1 hx.2.2.2.2) ar hl hs
theorem vU (law:∀(a0:av) (a1:fq) (a2:Int) (a3:aC) (a4:Int),(pP a0)→(tn a1)→((Lit.int .u8 a2).wf=true)→(mc a3)→((Lit.int .i64 a4).wf=true)→P.fe a0 a1 a2 a3 a4=some true):Rows.AuditLiesSaid :=
 OpenClaim.holds_of_wide 7 Tryz.f7 rfl rfl rfl rfl rfl rfl rfl ⟨rfl,rfl,rfl,rfl,rfl⟩ rfl rfl rfl rfl rfl (by kernel_rfl) Tryz.func7 (by kernel_rfl)
  (of_decide_eq_true (by kernel_rfl)) (by unfold Func.isWrapper;first|(rw[if_pos (by decide +kernel)];kernel_rfl)|(rw[if_neg (by decide +kernel)];exact⟨rfl,rfl⟩))
  (fun os started H enc _=>te law os started H enc)
theorem uI (law:∀(a0:av) (a1:fq) (a2:Int) (a3:aC) (a4:Int),(pP a0)→(tn a1)→((Lit.int .u8 a2).wf=true)→(mc a3)→((Lit.int .i64 a4).wf=true)→P.fe a0 a1 a2 a3 a4=some true):Rows.AuditLiesCardSaid :=
 Claim7.holds_tied_plain_at .later [] [.data,.data,.data] true Rows.auditLiesCard.stood.harness false
  (vU law) (fun _ h=>by cases h) (by kernel_rfl) (fun _ h=>by cases h) auditLies_row_tie rfl ⟨rfl,rfl⟩ (by kernel_rfl) rfl
  (fun f fn hf hfn=>by
   obtain rfl:f=7:=Option.some.inj ((show Tryz.prog.funcNamed "kitbag/kitbaglaw51.AuditLies" = some 7 by kernel_rfl).symm.trans hf) |>.symm
   obtain rfl:fn=Tryz.f7:=(Option.some.inj (Tryz.func7.symm.trans hfn)).symm
   exact⟨by kernel_rfl,fun j t ht=>by
    rw[Tryz.params7]at ht
    have hm:t∈[24,60,5,67,3]:=by simpa using Array.mem_of_getElem? ht
    have hall:([24,60,5,67,3].all fun u => !Tryz.prog.wantsStandIn u)=true:=by kernel_rfl
    exact (show Tryz.prog.wantsStandIn t=false by simpa using List.all_eq_true.1 hall t hm)⟩)
  (by kernel_rfl)
end Go.Proofs.YtpkahnkoecbndaaGreatDoor.Am
namespace Go.Proofs.YtpkahnkoecbndaaGreatDoor.P.T
open Go.RowKit
set_option linter.unusedSimpArgs false
set_option linter.unusedVariables false
theorem uE (n h:Int):eg n h=some (decide (0≤n∧n≤h)):=by
 unfold eg
 by_cases h0:n≥0
 ·rw[if_pos (by simpa using h0)]
  have:(0≤n∧n≤h)↔n≤h:=by omega
  simp[this]
 ·rw[if_neg (by simpa using h0)]
  have:¬(0≤n∧n≤h):=by omega
  simp[this]
def iR (x:ak):Prop:=x.aY = -1∧x.aQ = -1∧(x.bE.size:Int)≤8000∧(0≤x.ay∧x.ay≤1099511627776)∧(0≤x.aA∧x.aA≤1099511627776)
instance (x:ak):Decidable (iR x):=by unfold iR;infer_instance
theorem Oz (x:ak):iY x=some (decide (iR x)):=by
 unfold iY
 simp only[uE,Option.bind_some]
 by_cases h1:x.aY = -1
 ·rw[if_pos (by simpa using h1),Option.bind_some]
  by_cases h2:x.aQ = -1
  ·rw[if_pos (by simpa using h2)]
   by_cases h3:(x.bE.size:Int)≤8000
   ·rw[if_pos (decide_eq_true h3)]
    by_cases h4:0≤x.ay∧x.ay≤1099511627776
    ·rw[if_pos (decide_eq_true h4)]
     congr 1
     rw[decide_eq_decide]
     exact⟨fun h=>⟨h1,h2,h3,h4,h⟩,fun h=>h.2.2.2.2⟩
    ·rw[if_neg (by simpa using h4),decide_eq_false (fun h:iR x=>h4 h.2.2.2.1)]
   ·rw[if_neg (by simpa using h3),decide_eq_false (fun h:iR x=>h3 h.2.2.1)]
  ·rw[if_neg (by simpa using h2),decide_eq_false (fun h:iR x=>h2 h.2.1)]
 ·rw[if_neg (by simpa using h1),Option.bind_some,if_neg (by simp),decide_eq_false (fun h:iR x=>h1 h.1)]
def TS:ak:=ak.mk (ByteArray.mk #[]) 0 0 0 0
def rP (l:List ak) (a b:Int):ak×Int :=
 match P.idx l a,P.idx l b with
 | some x,some y =>
  if IntKind.i64.wrap (x.ay+y.ay)>1125899906842624∨IntKind.i64.wrap (x.aA+y.aA)>1125899906842624 then (TS,3)
  else (ak.mk (ByteArray.mk #[]) (IntKind.i64.wrap (x.ay+y.ay)) (IntKind.i64.wrap (x.aA+y.aA)) a b,0)
 | _,_=>(TS,4)
theorem B5 {α:Type} {l:List α} {i:Int} (h:¬(0≤i∧i<l.length)):P.idx l i=none:=by
 unfold P.idx
 rw[if_neg h]
theorem small {n:Nat} (h:n≤maxLen):(n:Int)≤9223372036854775807:=by
 have:maxLen≤9223372036854775807:=by decide
 omega
theorem UQ {l:List ak} (hl:l.length≤maxLen) (a b:Int):jU l a b=some (rP l a b):=by
 unfold jU
 have hw:IntKind.i64.wrap ((l.length:Int)-1)=(l.length:Int)-1:=wrap64 (by omega) (by have:=small hl;omega)
 simp only[uE,hw,Option.bind_some]
 by_cases ha:0≤a∧a<l.length
 ·have ha':(0≤a∧a≤(l.length:Int)-1):=by omega
  by_cases hb:0≤b∧b<l.length
  ·have hb':(0≤b∧b≤(l.length:Int)-1):=by omega
   simp only[ha',hb',and_self,decide_true,Bool.not_true,Bool.false_eq_true,if_false,uj ha.1 ha.2,uj hb.1 hb.2,Option.bind_some,rP,decide_eq_true_eq]
   split
   ·rename_i h;rw[if_pos (.inl h)];rfl
   ·split
    ·rename_i h;rw[if_pos (.inr h)];rfl
    ·rename_i h h';rw[if_neg (by intro hh;rcases hh with hh|hh<;>contradiction)]
  ·have hb':¬(0≤b∧b≤(l.length:Int)-1):=by omega
   simp only[ha',hb',and_self,decide_true,decide_false,Bool.not_true,Bool.not_false,Bool.false_eq_true,if_false,if_true,uj ha.1 ha.2,B5 hb,rP]
   rfl
 ·have ha':¬(0≤a∧a≤(l.length:Int)-1):=by omega
  simp only[ha',decide_false,Bool.not_false,if_true,B5 ha,rP]
  rfl
def UM (l:List ak) (i:Nat):Prop:=∀x,l[i]? = some x→iR x∨rP (l.take i) x.aY x.aQ=(x,0)
def dm (l:List ak):Prop:=l.length≤2000∧∀i,i<l.length→UM l i
theorem OV (x y:ak):((x.bE==y.bE)&&((x.ay==y.ay)&&((x.aA==y.aA)&&((x.aY==y.aY)&&(x.aQ==y.aQ)))))=true↔x=y:=by
 obtain⟨a,b,c,d,e⟩:=x
 obtain⟨a',b',c',d',e'⟩:=y
 simp[V3]
theorem kr (v:av):∃b,dq v=some b∧(b=true↔dm v.ag):=by
 obtain⟨l⟩:=v
 unfold dq
 simp only
 by_cases hlen:l.length≤2000
 ·have hle:¬((l.length:Int)>2000):=by omega
  simp only[hle,decide_false,Bool.false_eq_true,if_false]
  have hm:l.length≤maxLen:=Nat.le_trans hlen (by decide)
  obtain⟨r,h1,h2⟩:=eV (body:=kY ⟨l⟩) (fun s=>∃i:Nat,s=i∧i≤l.length∧∀j,j<i→UM l j) (fun s=>(l.length:Int).toNat-s.toNat)
   (fun r=>match r with | .inl _=>dm l | .inr b=>b=false∧¬dm l) (s:=0) ⟨0,rfl,Nat.zero_le _,fun j hj=>by omega⟩ (by simp only[FU];omega) (fun s hs=>by
    obtain⟨i,rfl,hi,hok⟩:=hs
    simp only[kY]
    by_cases hlt:i<l.length
    ·rw[if_pos (by simp;omega)]
     simp only[cv hlt,Option.bind_some,Oz]
     have hw:IntKind.i64.wrap ((i:Int)+1)=((i+1:Nat):Int):=by rw[wrap64 (by omega) (by omega)];rfl
     have hnext:UM l i→(∃i':Nat,IntKind.i64.wrap ((i:Int)+1)=i'∧i'≤l.length∧∀j,j<i'→UM l j)∧(l.length:Int).toNat-(IntKind.i64.wrap ((i:Int)+1)).toNat<(l.length:Int).toNat-(i:Int).toNat:=by
      intro hk
      refine⟨⟨i+1,hw,hlt,fun j hj =>?_⟩,by rw[hw];omega⟩
      rcases Nat.lt_succ_iff_lt_or_eq.1 hj with h|rfl
      ·exact hok j h
      ·exact hk
     by_cases hleaf:iR l[i]
     ·left
      refine⟨_,by simp only[hleaf,decide_true,if_true],hnext fun x hx =>?_⟩
      rw[List.getElem?_eq_getElem hlt,Option.some.injEq]at hx
      subst hx;exact .inl hleaf
     ·simp only[hleaf,decide_false,Bool.false_eq_true,if_false,Az hi,Option.bind_some,UQ (show (l.take i).length≤maxLen by simp;omega)]
      have hbad:rP (l.take i) l[i].aY l[i].aQ≠(l[i],0)→¬dm l:=by
       intro hne hs
       rcases hs.2 i hlt _ (List.getElem?_eq_getElem hlt) with h|h
       ·exact hleaf h
       ·exact hne h
      generalize hp:rP (l.take i) l[i].aY l[i].aQ=p at *
      obtain⟨y,e⟩:=p
      by_cases he:e=0
      ·subst he
       simp only[bne_self_eq_false,Bool.false_eq_true,if_false]
       by_cases hxy:l[i]=y
       ·left
        have:=(OV l[i] y).2 hxy
        refine⟨_,by simp only[this,Bool.not_true,Bool.false_eq_true,if_false],hnext fun x hx =>?_⟩
        rw[List.getElem?_eq_getElem hlt,Option.some.injEq]at hx
        subst hx
        exact .inr (by rw[hp,hxy])
       ·right
        have:=mt (OV l[i] y).1 hxy
        refine⟨.inr false,by rw[if_pos (by rw[Bool.not_eq_true]at this;rw[this];rfl)],rfl,hbad fun h=>hxy ?_⟩
        simp only[Prod.mk.injEq]at h
        exact h.1.symm
      ·right
       refine⟨.inr false,by rw[if_pos (by simpa using he)],rfl,hbad fun h=>he ?_⟩
       simp only[Prod.mk.injEq]at h
       exact h.2
    ·right
     refine⟨.inl (),by rw[if_neg (by simp;omega)],hlen,fun j hj=>hok j (by omega)⟩)
  rw[h1]
  cases r with
  | inl u=>exact⟨true,rfl,by simpa using h2⟩
  | inr b=>obtain⟨rfl,h3⟩:=h2;exact⟨false,rfl,by simpa using h3⟩
 ·have hle:((l.length:Int)>2000):=by omega
  simp only[hle,decide_true,if_true]
  exact⟨false,rfl,by simp only[Bool.false_eq_true,false_iff];exact fun h=>hlen h.1⟩
end Go.Proofs.YtpkahnkoecbndaaGreatDoor.P.T
namespace Go.Proofs.YtpkahnkoecbndaaGreatDoor.P.T
open Go.RowKit
set_option linter.unusedSimpArgs false
set_option linter.unusedVariables false
theorem JM {σ ρ:Type} {body:σ→Option (σ⊕ρ)} {n:Nat} {s s':σ} (h:body s=some (.inl s')):l6 body (n+1) s=l6 body n s':=by simp only[l6,h]
theorem B8 {σ ρ:Type} {body:σ→Option (σ⊕ρ)} {n:Nat} {s:σ} {r:ρ} (h:body s=some (.inr r)):l6 body (n+1) s=some r:=by simp only[l6,h]
theorem de {i:Nat} (h:i<4611686018427387904):IntKind.i64.wrap ((i:Int)+1)=((i+1:Nat):Int):=by rw[wrap64 (by omega) (by omega)];omega
theorem bz {α:Type} {l:List α} {i:Nat} {x:α} (h:l[i]? = some x):P.idx l (i:Int)=some x:=s9 (by omega) (by simpa using h)
theorem Gh {σ ρ:Type} {body:σ→Option (σ⊕ρ)} (n:Nat) (S:Nat→σ) {r:ρ} (hn:n<4611686018427387904) (hstep:∀i,i<n→body (S i)=some (.inl (S (i+1)))) (hend:body (S n)=some (.inr r)):a8 body (S 0)=some r:=by
 have key:∀(m i fuel:Nat),i+m=n→m<fuel→l6 body fuel (S i)=some r:=by
  intro m
  induction m with
  | zero =>
   intro i fuel hi hf
   obtain⟨f,rfl⟩:∃f,fuel=f+1:=⟨fuel-1,by omega⟩
   have:i=n:=by omega
   subst this
   exact B8 hend
  | succ m ih =>
   intro i fuel hi hf
   obtain⟨f,rfl⟩:∃f,fuel=f+1:=⟨fuel-1,by omega⟩
   rw[JM (hstep i (by omega))]
   exact ih (i+1) f (by omega) (by omega)
 exact key n 0 FU (by omega) (by have:FU=1000000000000000000000000:=rfl;omega)
def gw {α ρ:Type} (st:Nat→α→Option ρ):Nat→List α→Option ρ
 | _,[]=>none
 | i,x::l=>match st i x with|some r=>some r|none=>gw st (i+1) l
theorem oE {α ρ:Type} {st:Nat→α→Option ρ} : ∀ {l:List α} {i:Nat},gw st i l=none↔∀j x,l[j]? = some x→st (i+j) x=none
 | [],i=>by simp[gw]
 | x::l,i=>by
  simp only[gw]
  constructor
  ·intro h j y hj
   cases hs:st i x with
   | some r=>rw[hs]at h;cases h
   | none =>
    rw[hs]at h
    cases j with
    | zero=>simp only[List.getElem?_cons_zero,Option.some.injEq]at hj;subst hj;exact hs
    | succ j =>
     have:=oE.1 h j y (by simpa using hj)
     rw[← this];congr 1;omega
  ·intro h
   have h0:=h 0 x rfl
   simp only[Nat.add_zero]at h0
   rw[h0]
   refine oE.2 fun j y hj =>?_
   have:=h (j+1) y (by simpa using hj)
   rw[← this];congr 1;omega
theorem sZ {α ρ:Type} {st:Nat→α→Option ρ} {r:ρ} : ∀ {l:List α} {i:Nat},gw st i l=some r→∃j x,l[j]? = some x∧st (i+j) x=some r
 | [],i,h=>by cases h
 | x::l,i,h=>by
  simp only[gw]at h
  cases hs:st i x with
  | some r' =>
   rw[hs]at h
   exact⟨0,x,rfl,by rw[Nat.add_zero,hs];exact h⟩
  | none =>
   rw[hs]at h
   obtain⟨j,y,h1,h2⟩:=sZ h
   exact⟨j+1,y,by simpa using h1,by rw[← h2];congr 1;omega⟩
theorem drop_cons {α:Type} {l rest:List α} {i:Nat} {x:α} (h:l.drop i=x::rest):i<l.length∧l[i]? = some x∧l.drop (i+1)=rest:=by
 have hi:i<l.length:=by
  rcases Nat.lt_or_ge i l.length with h1|h1
  ·exact h1
  ·rw[List.drop_eq_nil_of_le h1]at h;cases h
 rw[List.drop_eq_getElem_cons hi]at h
 simp only[List.cons.injEq]at h
 exact⟨hi,by rw[List.getElem?_eq_getElem hi,h.1],h.2⟩
theorem XB {α ρ:Type} (l:List α) (n:Nat) {body:Int→Option (Int⊕(Unit⊕ρ))} (st:Nat→α→Option ρ) (hn:n≤l.length) (hlen:n<4611686018427387904)
  (hb:∀(i:Nat) x,i<n→l[i]? = some x→body (i:Int)=some (match st i x with|none =>.inl ((i+1:Nat):Int)|some r =>.inr (.inr r))) (he:body (n:Int)=some (.inr (.inl ()))) :
  a8 body 0=some (match gw st 0 (l.take n) with|none =>.inl ()|some r =>.inr r):=by
 have key:∀(rest:List α) (i fuel:Nat),i≤n→(l.take n).drop i=rest→rest.length<fuel→l6 body fuel (i:Int)=some (match gw st i rest with|none =>.inl ()|some r =>.inr r):=by
  intro rest
  induction rest with
  | nil =>
   intro i fuel hi hd hf
   obtain⟨f,rfl⟩:∃f,fuel=f+1:=⟨fuel-1,by simp at hf;omega⟩
   have h0:=congrArg List.length hd
   simp at h0
   have:i=n:=by omega
   subst this
   rw[B8 he]
   rfl
  | cons x rest ih =>
   intro i fuel hi hd hf
   obtain⟨f,rfl⟩:∃f,fuel=f+1:=⟨fuel-1,by simp at hf;omega⟩
   obtain⟨h1,h2,h3⟩:=drop_cons hd
   have hin:i<n:=by simp at h1;omega
   have h2':l[i]? = some x:=by rwa [List.getElem?_take_of_lt hin]at h2
   have:=hb i x hin h2'
   cases hs:st i x with
   | some r =>
    rw[hs]at this
    rw[B8 this]
    simp only[gw,hs]
   | none =>
    rw[hs]at this
    rw[JM this,ih (i+1) f (by omega) h3 (by simp at hf;omega)]
    simp only[gw,hs]
 exact key (l.take n) 0 FU (Nat.zero_le _) rfl (by have:FU=1000000000000000000000000:=rfl;simp;omega)
theorem Lb {α ρ:Type} (l:List α) {body:Int→Option (Int⊕(Unit⊕ρ))} (st:Nat→α→Option ρ) (hlen:l.length<4611686018427387904)
  (hb:∀(i:Nat) x,l[i]? = some x→body (i:Int)=some (match st i x with|none =>.inl ((i+1:Nat):Int)|some r =>.inr (.inr r))) (he:body (l.length:Int)=some (.inr (.inl ()))) :
  a8 body 0=some (match gw st 0 l with|none =>.inl ()|some r =>.inr r):=by
 have:=XB l l.length st (Nat.le_refl _) hlen (fun i x _ h=>hb i x h) he
 rwa [List.take_length]at this
theorem WZ {α:Type} (l:List α) {body:Int→Option (Int⊕(Unit⊕Bool))} (p:Nat→α→Prop) [∀i x,Decidable (p i x)] (hlen:l.length<4611686018427387904)
  (hb:∀(i:Nat) x,l[i]? = some x→body (i:Int)=some (if p i x then .inl ((i+1:Nat):Int) else .inr (.inr false))) (he:body (l.length:Int)=some (.inr (.inl ()))) :
  (∃h:(∀i x,l[i]? = some x→p i x),a8 body 0=some (.inl ()))∨(∃h:¬(∀i x,l[i]? = some x→p i x),a8 body 0=some (.inr false)):=by
 have hs:=Lb l (fun i x=>if p i x then none else some false) hlen (fun i x hx=>by
  rw[hb i x hx]
  by_cases h:p i x
  ·rw[if_pos h,if_pos h]
  ·rw[if_neg h,if_neg h]) he
 cases hf:gw (fun i x=>if p i x then none else some false) 0 l with
 | none =>
  refine .inl ⟨fun i x hx =>?_,by rw[hs,hf]⟩
  have:=oE.1 hf i x hx
  simp only[Nat.zero_add]at this
  by_cases h:p i x
  ·exact h
  ·rw[if_neg h]at this;cases this
 | some r =>
  obtain⟨j,x,h1,h2⟩:=sZ hf
  simp only[Nat.zero_add]at h2
  by_cases h:p j x
  ·rw[if_pos h]at h2;cases h2
  ·rw[if_neg h]at h2
   cases h2
   exact .inr ⟨fun hall=>h (hall j x h1),by rw[hs,hf]⟩
def OS (row:List Int) (n:Int):Prop:=0≤n∧n≤1099511627776∧row.length≤100∧(row.length:Int)≤n∧∀i x,row[i]? = some x→0≤x∧x<n-(i:Nat)
open Classical in
theorem sB {row:List Int} (n:Int) (hr:row.length<4611686018427387904):iW row n=some (decide (OS row n)):=by
 unfold iW
 by_cases h1:n<0
 ·rw[if_pos (by simp[h1])]
  have:¬OS row n:=fun h=>by have:=h.1;omega
  simp[this]
 rw[if_neg (by simp;omega)]
 by_cases h2:n>1099511627776
 ·rw[if_pos (by simp;omega)]
  have:¬OS row n:=fun h=>by have:=h.2.1;omega
  simp[this]
 rw[if_neg (by simp;omega)]
 have hm:(if 100<n then (100:Int) else n)=min 100 n:=by
  split<;>omega
 simp only[Option.bind_some,hm]
 by_cases h3:(row.length:Int)>min 100 n
 ·rw[if_pos (by simp;omega)]
  have:¬OS row n:=fun h=>by have:=h.2.2.1;have:=h.2.2.2.1;omega
  simp[this]
 rw[if_neg (by simp;omega)]
 rcases WZ row (body:=jx row n) (fun i x=>0≤x∧x<n-(i:Nat)) hr (fun i x hx=>by
   have hi:=(List.getElem?_eq_some_iff.1 hx).1
   unfold jx
   simp only[bz hx,Option.bind_some,de (show i<4611686018427387904 by omega)]
   rw[if_pos (by simp;omega),wrap64 (by omega) (by omega)]
   by_cases hx0:x<0
   ·rw[if_pos (by simp[hx0]),if_neg (by omega)]
   rw[if_neg (by simp;omega)]
   by_cases hx1:x≥n-(i:Nat)
   ·rw[if_pos (by simp;omega),if_neg (by omega)]
   ·rw[if_neg (by simp;omega),if_pos (by omega)]) (by unfold jx;simp) with⟨h,e⟩|⟨h,e⟩
 ·rw[e]
  have:OS row n:=⟨by omega,by omega,by omega,by omega,h⟩
  simp[this]
 ·rw[e]
  have:¬OS row n:=fun k=>h k.2.2.2.2
  simp[this]
end Go.Proofs.YtpkahnkoecbndaaGreatDoor.P.T
namespace Go.Proofs.YtpkahnkoecbndaaGreatDoor.P.T
open Go.RowKit
set_option linter.unusedSimpArgs false
set_option linter.unusedVariables false
theorem yn:maxLen=9223372036854775807:=rfl
theorem pn {α:Type} {B:Nat} {l m:List α} (h1:l.length+m.length≤1000000) (h2:B≤1000000):iH B l m=some (l++m):=by
 unfold iH
 have:=yn
 have h3:(l.length+m.length)*B≤1000000*1000000:=Nat.mul_le_mul h1 h2
 rw[if_pos ⟨by omega,by omega⟩]
theorem VL {α:Type} {B k:Nat} {z:α} (h1:k≤1000000) (h2:B≤1000000):LG B (k:Int) (k:Int) z=some (List.replicate k z):=by
 unfold LG
 have:=yn
 have h3:k*B≤1000000*1000000:=Nat.mul_le_mul h1 h2
 rw[if_pos ⟨by omega,by omega,by omega,by simpa using by omega⟩]
 simp
theorem HU {x m:Int} (hx:0≤x) (hm:m≠0):tk .i64 x m=some (x % m):=by
 unfold tk
 rw[if_neg hm,Int.tmod_eq_emod_of_nonneg hx]
theorem SZ {α:Type} {A B:List α} {i:Nat} {a:α} (hl:A.length=B.length) (ha:A[i]? = some a):(A.take i++B.drop i).set i a=A.take (i+1)++B.drop (i+1):=by
 have hi:=(List.getElem?_eq_some_iff.1 ha).1
 have e1:A.take (i+1)=A.take i++[a]:=by
  rw[List.take_succ_eq_append_getElem hi]
  have:=(List.getElem?_eq_some_iff.1 ha).2
  rw[this]
 have e2:B.drop i=B[i]'(by omega)::B.drop (i+1):=List.drop_eq_getElem_cons (by omega)
 have hlen:(A.take i).length=i:=by simp;omega
 rw[e1,e2,List.set_append_right _ _ (by omega),hlen,Nat.sub_self,List.set_cons_zero,List.append_assoc]
 rfl
theorem R7 {α:Type} {A B:List α} {i:Nat} (hl:A.length=B.length) (hi:i<B.length):(A.take i++B.drop i)[i]? = B[i]?:=by
 have hlen:(A.take i).length=i:=by simp;omega
 rw[List.getElem?_append_right (by omega),hlen,Nat.sub_self,List.getElem?_drop,Nat.add_zero]
def IP (rows:List (List Int)) (j:Nat):Int:=(rows.map fun r=>r.getD j 0).sum
def tp (rows:List (List Int)) (n:Int) (k:Nat):List Int:=(List.range k).map fun j=>IP rows j % (n-(j:Nat))
def Yt (rows:List (List Int)) (n k:Int):Prop:=0≤k∧k≤100∧k≤n∧n≤1099511627776∧rows.length≤400∧∀r∈rows,(r.length:Int)=k∧OS r n
theorem yG (rows:List (List Int)) (n:Int) (k:Nat):(tp rows n k).length=k:=by simp[tp]
theorem TT {rows:List (List Int)} {n:Int} {k j:Nat} (h:j<k):(tp rows n k)[j]? = some (IP rows j % (n-(j:Nat))):=by simp[tp,h]
theorem PC (rows:List (List Int)) (r:List Int) (j:Nat):IP (rows++[r]) j=IP rows j+r.getD j 0:=by simp[IP]
theorem Wy (n:Int) (k:Nat):tp [] n k=List.replicate k 0:=by
 apply List.ext_getElem?
 intro j
 by_cases h:j<k
 ·rw[TT h];simp[IP,h]
 ·rw[List.getElem?_eq_none (by rw[yG];omega),List.getElem?_eq_none (by simp;omega)]
theorem Ue {pre:List (List Int)} {row:List Int} {n:Int} {k:Nat} (hk:k≤100) (hkn:(k:Int)≤n) (hn:n≤1099511627776) (hl:row.length=k) (hr:OS row n) :
  a8 (jh n row) (0,tp pre n k)=some (tp (pre++[row]) n k):=by
 have hlen:(tp (pre++[row]) n k).length=(tp pre n k).length:=by rw[yG,yG]
 have:=Gh (body:=jh n row) k (fun i=>((i:Int),(tp (pre++[row]) n k).take i++(tp pre n k).drop i)) (r:=tp (pre++[row]) n k) (by omega) (fun i hi=>by
   have hx:row[i]? = some (row[i]'(by omega)):=List.getElem?_eq_getElem (by omega)
   obtain⟨b1,b2⟩:=hr.2.2.2.2 i _ hx
   have hy:=R7 hlen (i:=i) (by rw[yG];exact hi)
   rw[TT hi]at hy
   have c1:0≤IP pre i % (n-(i:Nat)):=Int.emod_nonneg _ (by omega)
   have c2:IP pre i % (n-(i:Nat))<n-(i:Nat):=Int.emod_lt_of_pos _ (by omega)
   unfold jh
   dsimp only
   rw[if_pos (by simp;omega)]
   simp only[bz hx,bz hy,Option.bind_some,de (show i<4611686018427387904 by omega)]
   rw[wrap64 (by omega) (by omega),wrap64 (by omega) (by omega),HU (by omega) (by omega)]
   simp only[Option.bind_some,Int.toNat_natCast]
   rw[SZ hlen (by
    rw[TT hi,PC]
    have:row.getD i 0=row[i]'(by omega):=by simp[List.getD,hx]
    rw[this,Int.emod_add_emod])]) (by
   unfold jh
   dsimp only
   rw[if_neg (by simp;omega)]
   have e1:(tp (pre++[row]) n k).take k=tp (pre++[row]) n k:=List.take_of_length_le (by rw[yG];omega)
   have e2:(tp pre n k).drop k=[]:=List.drop_eq_nil_of_le (by rw[yG];omega)
   rw[e1,e2,List.append_nil])
 simpa using this
open Classical in
theorem Uf {rows:List (List Int)} {n k:Int} (h1:rows.length<4611686018427387904) (h2:∀r∈rows,r.length<4611686018427387904):lC rows n k=some (if Yt rows n k then (tp rows n k.toNat,0) else ([],1)):=by
 unfold lC
 by_cases g1:k<0
 ·rw[if_pos (by simp;omega),if_neg (fun h=>by have:=h.1;omega)];rfl
 rw[if_neg (by simp;omega)]
 by_cases g2:k>100
 ·rw[if_pos (by simp;omega),if_neg (fun h=>by have:=h.2.1;omega)];rfl
 rw[if_neg (by simp;omega)]
 by_cases g3:n<k
 ·rw[if_pos (by simp;omega),if_neg (fun h=>by have:=h.2.2.1;omega)];rfl
 rw[if_neg (by simp;omega)]
 by_cases g4:n>1099511627776
 ·rw[if_pos (by simp;omega),if_neg (fun h=>by have:=h.2.2.2.1;omega)];rfl
 rw[if_neg (by simp;omega)]
 simp only[Option.bind_some]
 by_cases g5:(rows.length:Int)>400
 ·rw[if_pos (by simp;omega),if_neg (fun h=>by have:=h.2.2.2.2.1;omega)]
 rw[if_neg (by simp;omega)]
 obtain⟨K,rfl⟩:∃K:Nat,k=K:=⟨k.toNat,by omega⟩
 rw[VL (by omega) (by omega),← Wy n K]
 simp only[Option.bind_some,Int.toNat_natCast]
 obtain⟨r,hr,hp⟩:=eV (body:=nB rows n (K:Int)) (fun s=>∃i:Nat,s=((i:Int),tp (rows.take i) n K)∧i≤rows.length∧∀j x,j<i→rows[j]? = some x→(x.length:Int)=K∧OS x n) (fun s=>(rows.length-s.1).toNat)
  (fun r=>match r with | .inl l=>l=tp rows n K∧∀r∈rows,(r.length:Int)=K∧OS r n | .inr b=>b=([],1)∧¬ ∀r∈rows,(r.length:Int)=K∧OS r n) (s:=(0,tp [] n K)) ⟨0,rfl,by omega,fun j x h=>by omega⟩ (by have:FU=1000000000000000000000000:=rfl;dsimp only;omega)
  (by
   rintro s ⟨i,rfl,k1,k2⟩
   unfold nB
   dsimp only
   by_cases hi:i<rows.length
   ·rw[if_pos (by simp;omega)]
    have hx:rows[i]? = some rows[i]:=List.getElem?_eq_getElem hi
    simp only[bz hx,Option.bind_some]
    by_cases q1:(rows[i].length:Int)=K
    ·rw[if_neg (by simp[q1]),sB n (h2 _ (List.getElem_mem hi))]
     simp only[Option.bind_some]
     by_cases q2:OS rows[i] n
     ·rw[if_neg (by simp[q2]),Ue (by omega) (by omega) (by omega) (by omega) q2]
      simp only[Option.bind_some,de (show i<4611686018427387904 by omega)]
      refine .inl ⟨_,rfl,⟨i+1,?_,by omega,fun j x hj hx' =>?_⟩,by omega⟩
      ·rw[List.take_succ_eq_append_getElem hi]
      ·by_cases hji:j=i
       ·subst hji;rw[hx]at hx';cases hx';exact⟨q1,q2⟩
       ·exact k2 j x (by omega) hx'
     ·rw[if_pos (by simp[q2])]
      exact .inr ⟨_,rfl,rfl,fun hall=>q2 (hall _ (List.getElem_mem hi)).2⟩
    ·rw[if_pos (by simp;omega)]
     simp only[Option.bind_some]
     rw[if_pos trivial]
     exact .inr ⟨_,rfl,rfl,fun hall=>q1 (hall _ (List.getElem_mem hi)).1⟩
   ·rw[if_neg (by simp;omega)]
    refine .inr ⟨_,rfl,?_,fun r hr =>?_⟩
    ·rw[List.take_of_length_le (by omega)]
    ·obtain⟨j,hj,rfl⟩:=List.getElem_of_mem hr
     exact k2 j _ (by omega) (List.getElem?_eq_getElem hj))
 rw[hr]
 simp only[Option.bind_some]
 cases r with
 | inl l =>
  obtain⟨rfl,hall⟩:=hp
  rw[if_pos ⟨by omega,by omega,by omega,by omega,by omega,hall⟩]
 | inr b =>
  obtain⟨rfl,hall⟩:=hp
  rw[if_neg (fun h=>hall h.2.2.2.2.2)]
end Go.Proofs.YtpkahnkoecbndaaGreatDoor.P.T
namespace Go.Proofs.YtpkahnkoecbndaaGreatDoor.P.T
open Go.RowKit
set_option linter.unusedSimpArgs false
set_option linter.unusedVariables false
theorem Ls {l:List Int} (hl:l.length*8≤140737488351232):iX l=some (decide (¬l.Nodup)):=by
 unfold iX jw b8 iU AB
 simp only[Option.bind_some]
 unfold xn
 rw[if_pos hl]
 simp only[Option.bind_some]
 unfold Oc
 have hlen:=fm l
 rw[if_pos (by omega)]
 simp only[Option.bind_some]
 have hperm:(fU l).Perm l:=List.mergeSort_perm _ _
 have hsort:(fU l).Pairwise (fun a b=>decide (a≤b)=true):=List.pairwise_mergeSort (fun a b c h1 h2=>by simp at *;omega) (fun a b=>by simp;omega) l
 have hpos:∀(s:List Int) (h:s.length=s.length),(Lib.compact s).length≤s.length:=fun s _=>by
  unfold Lib.compact Lib.compactUpTo
  rw[List.length_map]
  refine Nat.le_trans (List.length_filter_le _ _) (by simp)
 by_cases hn:l.Nodup
 ·have hs:(fU l).Nodup:=hperm.nodup_iff.2 hn
  have:Lib.compact (fU l)=fU l:=Lib.compact_all _ fun j hj=>by
   unfold Lib.keeps
   by_cases h0:j=0
   ·simp[h0]
   ·have h1:j-1<(fU l).length:=by omega
    have:=(List.pairwise_iff_getElem.1 hs) (j-1) j h1 hj (by omega)
    simp only[decide_eq_true_eq]
    refine .inr ?_
    simp only[List.getElem!_toArray]
    rw[getElem!_pos (fU l) j hj,getElem!_pos (fU l) (j-1) h1]
    exact fun h=>this h.symm
  rw[this,hlen]
  simp[hn]
 ·have:(Lib.compact (fU l)).length<l.length:=by
   refine Nat.lt_of_le_of_ne (by rw[← hlen];exact hpos _ rfl) fun he=>hn (hperm.nodup_iff.1 ?_)
   unfold Lib.compact Lib.compactUpTo at he
   rw[List.length_map]at he
   have hall:=(List.length_filter_eq_length_iff (l:=List.range (fU l).length) (p:=Lib.keeps (fU l).toArray)).1 (by rw[he,List.length_range,hlen])
   refine List.pairwise_iff_getElem.2 fun i j hi hj hij =>?_
   have hk:=hall j (List.mem_range.2 hj)
   unfold Lib.keeps at hk
   simp only[decide_eq_true_eq]at hk
   have h1:j-1<(fU l).length:=by omega
   rcases hk with hk|hk
   ·omega
   ·simp only[List.getElem!_toArray]at hk
    rw[getElem!_pos (fU l) j hj,getElem!_pos (fU l) (j-1) h1]at hk
    have a2:=(List.pairwise_iff_getElem.1 hsort) (j-1) j h1 hj (by omega)
    simp only[decide_eq_true_eq]at a2
    by_cases hij':i=j-1
    ·subst hij';exact fun h=>hk h.symm
    ·have a1:=(List.pairwise_iff_getElem.1 hsort) i (j-1) hi h1 (by omega)
     simp only[decide_eq_true_eq]at a1
     omega
  simp[hn]
  omega
end Go.Proofs.YtpkahnkoecbndaaGreatDoor.P.T
namespace Go.Proofs.YtpkahnkoecbndaaGreatDoor.P.T
open Go.RowKit
set_option linter.unusedSimpArgs false
set_option linter.unusedVariables false
theorem wk {l:List Int} (hl:l.length≤1000):bD l=some l:=by
 unfold bD
 rw[pn (by simp;omega) (by omega)]
 rfl
end Go.Proofs.YtpkahnkoecbndaaGreatDoor.P.T
namespace Go.Proofs.YtpkahnkoecbndaaGreatDoor.P.T
open Go.RowKit
set_option linter.unusedSimpArgs false
set_option linter.unusedVariables false
def WS (l:List Int):Prop:=∀x∈l,-9223372036854775808≤x∧x≤9223372036854775807
theorem FC:∀ {l:List Int},WS l→(iD l).length≤22*l.length
 | [],_=>by simp[iD]
 | x::l,h=>by
  have h1:=Lib.itoa_length_le x (h x (by simp)).1 (h x (by simp)).2
  have h2:=FC (l:=l) fun y hy=>h y (by simp[hy])
  have e:iD (x::l)=Lib.itoa x++[59]++iD l:=by simp[iD]
  rw[e]
  simp
  omega
theorem FB {l:List Int} (h:WS l) (hl:l.length≤200):(mF l).length≤5000:=by
 have h1:=FC h
 have h2:=Lib.itoa_length_le (l.length:Int) (by omega) (by omega)
 unfold mF
 simp
 omega
def TV (l:List Int):ByteArray:=⟨(mF l).toArray⟩
theorem TW {l:List Int} (h:WS l) (hl:l.length≤200):(TV l).size≤5000:=by
 have:=FB h hl
 simpa [TV,ByteArray.size] using this
theorem NG {l:List Int} (h:WS l) (hl:l.length≤200):kc l=some (TV l):=by
 unfold kc uD OK
 have:=FB h hl
 rw[if_pos ⟨h,by omega,by omega⟩]
 rfl
end Go.Proofs.YtpkahnkoecbndaaGreatDoor.P.T
namespace Go.Proofs.YtpkahnkoecbndaaGreatDoor.P.T
open Go.RowKit
set_option linter.unusedSimpArgs false
set_option linter.unusedVariables false
theorem Vn (n h:Int):qZ n 0 h=some (decide (0≤n∧n≤h)):=by
 rw[← uE]
 rfl
theorem Qt (x:ak):lA x=some (decide (x.aY = -1∧x.aQ = -1)):=by
 unfold lA
 by_cases h1:x.aY = -1
 ·rw[if_pos (by simp[h1])]
  by_cases h2:x.aQ = -1<;>simp[h1,h2]
 ·rw[if_neg (by simp[h1])];simp[h1]
theorem SR (x:ak):od x=some (decide (iR x)):=by
 unfold od
 simp only[Qt,Vn,Option.bind_some]
 by_cases h1:x.aY = -1∧x.aQ = -1
 ·rw[if_pos (decide_eq_true h1)]
  by_cases h3:(x.bE.size:Int)≤8000
  ·rw[if_pos (decide_eq_true h3)]
   by_cases h4:0≤x.ay∧x.ay≤1099511627776
   ·rw[if_pos (decide_eq_true h4)]
    congr 1
    rw[decide_eq_decide]
    exact⟨fun h=>⟨h1.1,h1.2,h3,h4,h⟩,fun h=>h.2.2.2.2⟩
   ·rw[if_neg (by simpa using h4),decide_eq_false (fun h:iR x=>h4 h.2.2.2.1)]
  ·rw[if_neg (by simpa using h3),decide_eq_false (fun h:iR x=>h3 h.2.2.1)]
 ·rw[if_neg (by simp;omega),decide_eq_false (fun h:iR x=>h1 ⟨h.1,h.2.1⟩)]
def SL (l:List ak) (x:ak) (u v:ak):Prop:=P.idx l x.aY=some u∧P.idx l x.aQ=some v∧x.bE=ByteArray.mk #[]∧x.ay=IntKind.i64.wrap (u.ay+v.ay)∧x.aA=IntKind.i64.wrap (u.aA+v.aA)∧x.ay≤1125899906842624∧x.aA≤1125899906842624
theorem uk {l:List ak} {x:ak} : rP l x.aY x.aQ=(x,0)↔∃u v,SL l x u v:=by
 unfold rP SL
 constructor
 ·intro h
  split at h
  ·rename_i u v hu hv
   split at h
   ·exact absurd (congrArg Prod.snd h) (by simp)
   ·rename_i hc
    have e:=congrArg Prod.fst h
    simp only at e
    rw[not_or]at hc
    refine⟨u,v,hu,hv,by rw[← e],by rw[← e],by rw[← e],?_,?_⟩
    ·rw[← e];simp only;omega
    ·rw[← e];simp only;omega
  ·exact absurd (congrArg Prod.snd h) (by simp)
 ·rintro⟨u,v,hu,hv,h1,h2,h3,h4,h5⟩
  rw[hu,hv]
  simp only
  rw[if_neg (by rw[← h2,← h3];omega),← h1,← h2,← h3]
theorem wW {l:List ak} {i:Nat} (hi:i≤l.length) (a:Int):P.idx (l.take i) a=if 0≤a∧a<i then P.idx l a else none:=by
 by_cases h:0≤a∧a<i
 ·rw[if_pos h]
  unfold P.idx
  rw[if_pos ⟨h.1,by simp;omega⟩,if_pos ⟨h.1,by omega⟩,List.getElem?_take_of_lt (by omega)]
 ·rw[if_neg h]
  unfold P.idx
  rw[if_neg (by simp;omega)]
open Classical in
theorem Qu (l:List ak):∃b,j9 ⟨l⟩=some b∧(b=true↔dm l):=by
 unfold j9
 by_cases hlen:l.length≤2000
 ·rw[if_neg (by simp;omega)]
  rcases WZ l (body:=kO ⟨l⟩) (fun i x=>iR x∨rP (l.take i) x.aY x.aQ=(x,0)) (by omega) (fun i x hx=>by
    have hi:=(List.getElem?_eq_some_iff.1 hx).1
    have hw:IntKind.i64.wrap ((i:Int)-1)=(i:Int)-1:=wrap64 (by omega) (by omega)
    unfold kO
    dsimp only
    rw[if_pos (by simp;omega)]
    simp only[bz hx,Option.bind_some,SR,Vn,hw,de (show i<4611686018427387904 by omega),HO]
    by_cases hl:iR x
    ·rw[if_pos (decide_eq_true hl),if_pos (.inl hl)]
    rw[if_neg (by simpa using hl)]
    have hiff:(iR x∨rP (l.take i) x.aY x.aQ=(x,0))↔∃u v,SL (l.take i) x u v:=by rw[uk];exact⟨fun h=>h.resolve_left hl,.inr⟩
    by_cases h1:x.bE=ByteArray.mk #[]
    ·rw[if_neg (by simp[h1])]
     by_cases h2:0≤x.aY∧x.aY≤(i:Int)-1
     ·rw[if_neg (by simp[h2])]
      simp only[Option.bind_some]
      by_cases h3:0≤x.aQ∧x.aQ≤(i:Int)-1
      ·rw[if_neg (by simp[h3])]
       have hu:=uj (l:=l) h2.1 (by omega)
       have hv:=uj (l:=l) h3.1 (by omega)
       generalize l[x.aY.toNat]'(by omega)=u at hu
       generalize l[x.aQ.toNat]'(by omega)=v at hv
       have hu':P.idx (l.take i) x.aY=some u:=by rw[wW (by omega),if_pos (by omega),hu]
       have hv':P.idx (l.take i) x.aQ=some v:=by rw[wW (by omega),if_pos (by omega),hv]
       simp only[hu,hv,Option.bind_some]
       by_cases h4:x.ay=IntKind.i64.wrap (u.ay+v.ay)
       ·rw[if_neg (by simp[h4])]
        by_cases h5:x.aA=IntKind.i64.wrap (u.aA+v.aA)
        ·rw[if_neg (by simp[h5])]
         by_cases h6:x.ay>1125899906842624
         ·rw[if_pos (by simp;omega),if_neg]
          rw[hiff]
          rintro⟨_,_,h⟩
          have:=h.2.2.2.2.2.1
          omega
         rw[if_neg (by simp;omega)]
         by_cases h7:x.aA>1125899906842624
         ·rw[if_pos (by simp;omega),if_neg]
          rw[hiff]
          rintro⟨_,_,h⟩
          have:=h.2.2.2.2.2.2
          omega
         rw[if_neg (by simp;omega),if_pos (hiff.2 ⟨u,v,hu',hv',h1,h4,h5,by omega,by omega⟩)]
        ·rw[if_pos (by simpa using h5),if_neg]
         rw[hiff]
         rintro⟨u',v',h⟩
         have e1:=hu'.symm.trans h.1
         have e2:=hv'.symm.trans h.2.1
         cases e1;cases e2
         exact h5 h.2.2.2.2.1
       ·rw[if_pos (by simpa using h4),if_neg]
        rw[hiff]
        rintro⟨u',v',h⟩
        have e1:=hu'.symm.trans h.1
        have e2:=hv'.symm.trans h.2.1
        cases e1;cases e2
        exact h4 h.2.2.2.1
      ·rw[if_pos (by simp;omega),if_neg]
       rw[hiff]
       rintro⟨u',v',h⟩
       have:=h.2.1
       rw[wW (by omega),if_neg (by omega)]at this
       cases this
     ·rw[if_pos (by simp;omega)]
      simp only[Option.bind_some]
      rw[if_pos trivial,if_neg]
      rw[hiff]
      rintro⟨u',v',h⟩
      have:=h.1
      rw[wW (by omega),if_neg (by omega)]at this
      cases this
    ·rw[if_pos (by simp[h1])]
     simp only[Option.bind_some]
     rw[if_pos trivial,if_neg]
     rw[hiff]
     rintro⟨u',v',h⟩
     exact h1 h.2.2.1) (by unfold kO;simp) with⟨h,e⟩|⟨h,e⟩
  ·rw[e]
   exact⟨_,rfl,fun _=>⟨hlen,fun i _ x hx=>h i x hx⟩,fun _=>rfl⟩
  ·rw[e]
   refine⟨_,rfl,⟨(fun h=>by cases h),fun hs=>absurd (fun i x hx =>?_) h⟩⟩
   exact hs.2 i (List.getElem?_eq_some_iff.1 hx).1 x hx
 ·rw[if_pos (by simp;omega)]
  exact⟨_,rfl,⟨(fun h=>by cases h),fun hs=>absurd hs.1 hlen⟩⟩
def kG (l:List ak) (i:Int) (t:ByteArray) (v b:Int):Prop:=dm l∧∃x,P.idx l i=some x∧x.bE=t∧x.ay=v∧x.aA=b
open Classical in
theorem H4 {l:List ak} (i:Int) (t:ByteArray) (v b:Int):gM ⟨l⟩ i t v b=some (decide (kG l i t v b)):=by
 obtain⟨q,h1,h2⟩:=kr ⟨l⟩
 unfold gM
 rw[h1]
 simp only[Option.bind_some]
 cases q with
 | false =>
  have:¬kG l i t v b:=fun h=>by have:=h2.2 h.1;cases this
  simp[this]
 | true =>
  have hs:dm l:=h2.1 rfl
  have hm:l.length≤maxLen:=Nat.le_trans hs.1 (by decide)
  have hw:IntKind.i64.wrap ((l.length:Int)-1)=(l.length:Int)-1:=wrap64 (by omega) (by have:=small hm;omega)
  simp only[Bool.not_true,Bool.false_eq_true,if_false,uE,hw,Option.bind_some]
  by_cases hi:0≤i∧i<l.length
  ·have hi':0≤i∧i≤(l.length:Int)-1:=by omega
   simp only[hi',and_self,decide_true,Bool.not_true,Bool.false_eq_true,if_false]
   have hx:=uj (l:=l) hi.1 hi.2
   generalize l[i.toNat]'(by omega)=x at hx
   have hop:kG l i t v b↔x.bE=t∧x.ay=v∧x.aA=b:=by
    unfold kG
    rw[hx]
    constructor
    ·rintro⟨_,y,e,h⟩;cases e;exact h
    ·intro h;exact⟨hs,x,rfl,h⟩
   simp only[hx,Option.bind_some,HO]
   by_cases g1:x.bE=t
   ·rw[if_pos (decide_eq_true g1)]
    by_cases g2:x.ay=v
    ·rw[if_pos (by simp[g2])]
     congr 1
     by_cases g3:x.aA=b
     ·have:kG l i t v b:=hop.2 ⟨g1,g2,g3⟩
      simp[this,g3]
     ·have:¬kG l i t v b:=fun h=>g3 (hop.1 h).2.2
      simp[this,g3]
    ·have:¬kG l i t v b:=fun h=>g2 (hop.1 h).2.1
     rw[if_neg (by simp[g2])]
     simp[this]
   ·have:¬kG l i t v b:=fun h=>g1 (hop.1 h).1
    rw[if_neg (by simp[g1])]
    simp[this]
  ·have hi':¬(0≤i∧i≤(l.length:Int)-1):=by omega
   have:¬kG l i t v b:=by
    rintro⟨_,x,e,_⟩
    rw[B5 hi]at e
    cases e
   simp[hi',this]
theorem QT (v:av) (n:Int) (hl:v.ag.length≤4611686018427387904-1):∃b,qX v n=some b∧(b=true→(v.ag.length:Int)≤n):=by
 unfold qX
 obtain⟨r,hr,hp⟩:=eV (body:=qY v n) (fun s=>∃i:Nat,s=i∧i≤v.ag.length) (fun s=>(v.ag.length-s).toNat) (fun r=>match r with | .inl _=>True | .inr b=>b=false) (s:=0) ⟨0,rfl,by omega⟩
  (by have:FU=1000000000000000000000000:=rfl;omega) (by
   rintro s ⟨i,rfl,h1⟩
   unfold qY
   dsimp only
   by_cases hi:i<v.ag.length
   ·rw[if_pos (by simp;omega)]
    simp only[Option.bind_some]
    by_cases hn:(i:Int)<n
    ·rw[if_pos (by simp;omega)]
     simp only[bz (List.getElem?_eq_getElem hi),Option.bind_some,de (show i<4611686018427387904 by omega)]
     split
     ·exact .inr ⟨_,rfl,rfl⟩
     ·exact .inl ⟨_,rfl,⟨i+1,rfl,by omega⟩,by omega⟩
    ·rw[if_neg (by simp;omega)]
     exact .inr ⟨_,rfl,trivial⟩
   ·rw[if_neg (by simp;omega)]
    exact .inr ⟨_,rfl,trivial⟩)
 rw[hr]
 simp only[Option.bind_some]
 cases r with
 | inl u=>exact⟨_,rfl,fun h=>by simpa using h⟩
 | inr b=>subst hp;exact⟨_,rfl,fun h=>by cases h⟩
end Go.Proofs.YtpkahnkoecbndaaGreatDoor.P.T
namespace Go.Proofs.YtpkahnkoecbndaaGreatDoor.P.T
open Go.RowKit
set_option linter.unusedSimpArgs false
set_option linter.unusedVariables false
theorem WY {α ρ:Type} (l:List α) {body:Int→Option (Int⊕(Unit⊕ρ))} (p:Nat→α→Prop) (bad:ρ) [∀i x,Decidable (p i x)] (hlen:l.length<4611686018427387904)
  (hb:∀(i:Nat) x,l[i]? = some x→body (i:Int)=some (if p i x then .inl ((i+1:Nat):Int) else .inr (.inr bad))) (he:body (l.length:Int)=some (.inr (.inl ()))) :
  (∃h:(∀i x,l[i]? = some x→p i x),a8 body 0=some (.inl ()))∨(∃h:¬(∀i x,l[i]? = some x→p i x),a8 body 0=some (.inr bad)):=by
 have hs:=Lb l (fun i x=>if p i x then none else some bad) hlen (fun i x hx=>by
  rw[hb i x hx]
  by_cases h:p i x
  ·rw[if_pos h,if_pos h]
  ·rw[if_neg h,if_neg h]) he
 cases hf:gw (fun i x=>if p i x then none else some bad) 0 l with
 | none =>
  refine .inl ⟨fun i x hx =>?_,by rw[hs,hf]⟩
  have:=oE.1 hf i x hx
  simp only[Nat.zero_add]at this
  by_cases h:p i x
  ·exact h
  ·rw[if_neg h]at this;cases this
 | some r =>
  obtain⟨j,x,h1,h2⟩:=sZ hf
  simp only[Nat.zero_add]at h2
  by_cases h:p j x
  ·rw[if_pos h]at h2;cases h2
  ·rw[if_neg h]at h2
   cases h2
   exact .inr ⟨fun hall=>h (hall j x h1),by rw[hs,hf]⟩
def Gt (v:av) (seals:List Int) (rows:List (List Int)) (blinds:List Int):Prop:=∀i x,seals[i]? = some x→kG v.ag x (TV (rows.getD i [])) 0 (blinds.getD i 0)
open Classical in
noncomputable def SJ (v:av) (seals:List Int) (rows:List (List Int)) (blinds:List Int) (n k:Int):List Int×Int :=
 if Yt rows n k then (if seals.length≠rows.length∨blinds.length≠rows.length then ([],2) else if ¬seals.Nodup then ([],5) else if Gt v seals rows blinds then (tp rows n k.toNat,0) else ([],22)) else ([],1)
open Classical in
theorem Ud {v:av} {seals:List Int} {rows:List (List Int)} {blinds:List Int} {n k:Int} (h1:rows.length<4611686018427387904) (h2:∀r∈rows,r.length<4611686018427387904∧WS r) (h3:seals.length*8≤140737488351232) :
  kb v seals rows blinds n k=some (SJ v seals rows blinds n k):=by
 unfold kb SJ
 rw[Uf h1 fun r hr=>(h2 r hr).1]
 simp only[Option.bind_some]
 by_cases hok:Yt rows n k
 ·rw[if_pos hok,if_pos hok,if_neg (by simp)]
  by_cases q1:seals.length=rows.length
  ·rw[if_neg (by simp[q1])]
   simp only[Option.bind_some]
   by_cases q2:blinds.length=rows.length
   ·rw[if_neg (by simp[q2]),if_neg (by simp[q1,q2]),Ls h3]
    simp only[Option.bind_some]
    by_cases q3:seals.Nodup
    ·rw[if_neg (by simp[q3]),if_neg (by simp[q3])]
     rcases WY seals (body:=kV v seals rows blinds) (fun i x=>kG v.ag x (TV (rows.getD i [])) 0 (blinds.getD i 0)) ([],22) (by omega) (fun i x hx=>by
       have hi:=(List.getElem?_eq_some_iff.1 hx).1
       have hr:rows[i]? = some (rows[i]'(by omega)):=List.getElem?_eq_getElem (by omega)
       have hb:blinds[i]? = some (blinds[i]'(by omega)):=List.getElem?_eq_getElem (by omega)
       have hm:=List.mem_of_getElem? hr
       unfold kV
       dsimp only
       rw[if_pos (by simp;omega)]
       simp only[bz hx,bz hr,Option.bind_some]
       rw[NG (h2 _ hm).2 (by have:=(hok.2.2.2.2.2 _ hm).1;have:=hok.2.1;omega)]
       simp only[Option.bind_some,bz hb]
       rw[show v=⟨v.ag⟩ from rfl,H4]
       have e1:rows.getD i []=rows[i]'(by omega):=by simp[List.getD,hr]
       have e2:blinds.getD i 0=blinds[i]'(by omega):=by simp[List.getD,hb]
       rw[e1,e2]
       simp only[Option.bind_some,de (show i<4611686018427387904 by omega)]
       by_cases ho:kG v.ag x (TV (rows[i]'(by omega))) 0 (blinds[i]'(by omega))
       ·rw[if_neg (by simp[ho]),if_pos ho]
       ·rw[if_pos (by simp[ho]),if_neg ho]) (by unfold kV;simp) with⟨h,e⟩|⟨h,e⟩
     ·rw[e,if_pos (show Gt v seals rows blinds from h)];rfl
     ·rw[e,if_neg (show ¬Gt v seals rows blinds from h)];rfl
    ·rw[if_pos (by simp[q3]),if_pos q3]
   ·rw[if_pos (by simp;omega),if_pos (.inr q2)]
  ·rw[if_pos (by simp;omega)]
   simp only[Option.bind_some]
   rw[if_pos trivial,if_pos (.inl q1)]
 ·rw[if_neg hok,if_neg hok,if_pos (by simp)]
theorem put_eq {l:List ak} (hl:l.length<10000) (x:ak):lF ⟨l⟩ x=some (⟨l++[x]⟩,(l.length:Int),0):=by
 have hm:=yn
 unfold lF dA ka iH
 simp only[List.length_nil,Nat.zero_add,List.nil_append,List.length_cons]
 rw[if_pos (by omega)]
 simp only[Option.bind_some]
 rw[if_pos (by omega)]
 simp only[Option.bind_some]
 rw[if_pos (by omega)]
 rfl
theorem Ld {l:List ak} {x:ak} (hs:dm l) (hl:l.length<2000) (hx:iR x):dm (l++[x]):=by
 refine⟨by simp;omega,fun i hi y hy =>?_⟩
 simp only[List.length_append,List.length_cons,List.length_nil]at hi
 by_cases h:i<l.length
 ·rw[List.getElem?_append_left h]at hy
  rw[List.take_append_of_le_length (by omega)]
  exact hs.2 i h y hy
 ·have:i=l.length:=by omega
  subst this
  simp at hy
  subst hy
  exact .inl hx
theorem Ub {l:List ak} (hs:dm l) (hl:l.length<1000) {t:ByteArray} (ht:(t.size:Int)≤8000) {b:Int} (hb:0≤b∧b≤1099511627776):jT ⟨l⟩ t 0 b=some (⟨l++[ak.mk t 0 b (-1) (-1)]⟩,(l.length:Int),0):=by
 obtain⟨q,h1,h2⟩:=kr ⟨l⟩
 have hq:q=true:=h2.2 hs
 subst hq
 have hleaf:iR (ak.mk t 0 b (-1) (-1)):=⟨rfl,rfl,ht,⟨by simp,by simp⟩,hb⟩
 unfold jT
 simp only[h1,Option.bind_some,Bool.not_true,Bool.false_eq_true,if_false,Oz]
 simp only[hleaf,decide_true,Bool.not_true,Bool.false_eq_true,if_false]
 rw[if_neg (by simp;omega),put_eq (by omega)]
 rfl
theorem U4 {r:List Int} {n k:Int} (h1:0≤k∧k≤100∧k≤n∧n≤1099511627776) (h2:(r.length:Int)=k) (h3:OS r n):Yt [r] n k:=⟨h1.1,h1.2.1,h1.2.2.1,h1.2.2.2,by simp,fun x hx=>by simp at hx;subst hx;exact⟨h2,h3⟩⟩
theorem YL {a b n:Int} (h:0≤a∧a<n∧0≤b∧b<n-1∧2≤n∧n≤1000):OS [a,b] n:=by
 refine⟨by omega,by omega,by simp,by simp;omega,fun i x hx =>?_⟩
 match i with
 | 0=>simp at hx;subst hx;simp;omega
 | 1=>simp at hx;subst hx;simp;omega
 | i+2=>simp at hx
theorem TZ {y:Int} (h:(Lit.int .i64 y).wf=true) : -9223372036854775808≤y∧y≤9223372036854775807:=by
 have h':(decide (IntKind.i64.min≤y)&&decide (y≤IntKind.i64.max))=true:=h
 simp only[Bool.and_eq_true,decide_eq_true_eq]at h'
 exact h'
end Go.Proofs.YtpkahnkoecbndaaGreatDoor.P.T
namespace Go.Proofs.YtpkahnkoecbndaaGreatDoor.P
open Go.RowKit
set_option linter.unusedSimpArgs false
set_option linter.unusedVariables false
def aL (n:Nat):List Int:=if h:n=0 then [] else ((n % 1048576:Nat):Int)::aL (n / 1048576)
termination_by n
decreasing_by omega
def dv:List Int→Int
 | []=>0
 | d::l=>d+1048576*dv l
def Dg (l:List Int):Prop:=∀d∈l,0≤d∧d<1048576
def pw (i:Nat):Int:=1048576 ^ i
theorem nn:pw 0=1:=rfl
theorem jI (i:Nat):pw (i+1)=1048576*pw i:=by unfold pw;rw[Int.pow_succ,Int.mul_comm]
theorem lx (i:Nat):0<pw i:=by unfold pw;exact Int.pow_pos (by decide)
theorem Cx (i j:Nat):pw (i+j)=pw i*pw j:=by unfold pw;rw[Int.pow_add]
theorem um {i j:Nat} (h:i≤j):pw i≤pw j:=by
 obtain⟨k,rfl⟩:=Nat.le.dest h
 rw[Cx]
 have h1:=lx i
 have h2:=lx k
 calc pw i=pw i*1:=by rw[Int.mul_one]
  _≤pw i*pw k:=Int.mul_le_mul_of_nonneg_left (by omega) (by omega)
theorem cH:aL 0=[]:=by rw[aL];rfl
theorem l4 {n:Nat} (h:n≠0):aL n=((n % 1048576:Nat):Int)::aL (n / 1048576):=by rw[aL,dif_neg h]
theorem pF {n:Nat} : aL n=[]↔n=0:=by
 constructor
 ·intro h
  rcases Nat.eq_zero_or_pos n with h0|h0
  ·exact h0
  ·rw[l4 (by omega)]at h;cases h
 ·rintro rfl;exact cH
theorem bP:∀n:Nat,dv (aL n)=n:=by
 intro n
 induction n using Nat.strongRecOn with
 | _ n ih =>
  rcases Nat.eq_zero_or_pos n with h0|h0
  ·subst h0;rw[cH];rfl
  ·rw[l4 (by omega),dv,ih (n / 1048576) (by omega)]
   omega
theorem cL:∀n:Nat,Dg (aL n):=by
 intro n
 induction n using Nat.strongRecOn with
 | _ n ih =>
  rcases Nat.eq_zero_or_pos n with h0|h0
  ·subst h0;rw[cH];intro d hd;cases hd
  ·rw[l4 (by omega)]
   intro d hd
   rcases List.mem_cons.1 hd with rfl|hd
   ·omega
   ·exact ih (n / 1048576) (by omega) d hd
theorem Dg.nil:Dg []:=fun d hd=>by cases hd
theorem Dg.cons {d:Int} {l:List Int} (h:Dg (d::l)):(0≤d∧d<1048576)∧Dg l:=⟨h d List.mem_cons_self,fun x hx=>h x (List.mem_cons_of_mem _ hx)⟩
theorem Dg.mk {d:Int} {l:List Int} (h:0≤d∧d<1048576) (hl:Dg l):Dg (d::l):=fun x hx=>by
 rcases List.mem_cons.1 hx with rfl|hx
 ·exact h
 ·exact hl x hx
theorem Dg.append {l m:List Int} (h:Dg l) (hm:Dg m):Dg (l++m):=fun x hx=>(List.mem_append.1 hx).elim (h x) (hm x)
theorem Dg.take {l:List Int} (h:Dg l) (n:Nat):Dg (l.take n):=fun x hx=>h x (List.mem_of_mem_take hx)
theorem Dg.drop {l:List Int} (h:Dg l) (n:Nat):Dg (l.drop n):=fun x hx=>h x (List.mem_of_mem_drop hx)
theorem Dg.rep (n:Nat):Dg (List.replicate n 0):=fun x hx=>by rw[(List.mem_replicate.1 hx).2];omega
theorem Dg.set {l:List Int} (h:Dg l) (i:Nat) {x:Int} (hx:0≤x∧x<1048576):Dg (l.set i x):=fun y hy=>by
 rcases List.mem_or_eq_of_mem_set hy with hy|rfl
 ·exact h y hy
 ·exact hx
theorem Dg.get {l:List Int} (h:Dg l) {i:Nat} (hi:i<l.length):0≤l[i]∧l[i]<1048576:=h _ (List.getElem_mem hi)
theorem cy:∀ {l:List Int},Dg l→0≤dv l
 | [],_=>Int.le_refl _
 | d::l,h=>by
  have h1:=h.cons
  have:=cy h1.2
  simp only[dv]
  omega
theorem nP:∀ {l:List Int},Dg l→dv l<pw l.length
 | [],_=>by simp[dv,nn]
 | d::l,h=>by
  have h1:=h.cons
  have:=nP h1.2
  simp only[dv,List.length_cons,jI]
  omega
theorem fk:∀l m:List Int,dv (l++m)=dv l+pw l.length*dv m
 | [],m=>by simp[dv,nn]
 | d::l,m=>by
  rw[List.cons_append,dv,dv,fk l m,List.length_cons,jI,Int.mul_add,Int.mul_assoc]
  omega
theorem Bt:∀n:Nat,dv (List.replicate n 0)=0
 | 0=>rfl
 | n+1=>by rw[List.replicate_succ,dv,Bt n];rfl
theorem eY {l:List Int} {i:Nat} (h:i<l.length):dv (l.take (i+1))=dv (l.take i)+pw i*l[i]:=by
 have e:l.take (i+1)=l.take i++[l[i]]:=by rw[List.take_add_one];simp[h]
 rw[e,fk,List.length_take,Nat.min_eq_left (by omega)]
 simp[dv]
theorem hZ (l:List Int) {i:Nat} (h:i≤l.length):dv l=dv (l.take i)+pw i*dv (l.drop i):=by
 have:=fk (l.take i) (l.drop i)
 rw[List.take_append_drop,List.length_take,Nat.min_eq_left h]at this
 exact this
theorem xX {l:List Int} {i:Nat} (h:i<l.length) (x:Int):dv (l.set i x)=dv l+pw i*(x-l[i]):=by
 induction l generalizing i with
 | nil=>simp at h
 | cons d l ih =>
  cases i with
  | zero=>simp only[List.set_cons_zero,dv,nn,List.getElem_cons_zero];omega
  | succ i =>
   have:=ih (i:=i) (by simpa using h)
   simp only[List.set_cons_succ,dv,this,jI,List.getElem_cons_succ,Int.mul_add,Int.mul_assoc]
   omega
theorem Ap:∀ {l:List Int},Dg l→(∀h:l≠[],l.getLast h≠0)→aL (dv l).toNat=l
 | [],_,_=>by simp[dv,cH]
 | d::l,h,hl=>by
  have h1:=h.cons
  have h2:=cy h1.2
  have hne:(dv (d::l)).toNat≠0:=by
   simp only[dv]
   intro h0
   have hd:d=0:=by omega
   have hv:dv l=0:=by omega
   cases l with
   | nil=>exact hl (by simp) (by simpa using hd)
   | cons e m =>
    have ih:=Ap h1.2 (fun hh=>by have:=hl (by simp);simpa using this)
    rw[hv]at ih
    simp[cH]at ih
  rw[l4 hne]
  have e1:(dv (d::l)).toNat % 1048576=d.toNat:=by simp only[dv];omega
  have e2:(dv (d::l)).toNat / 1048576=(dv l).toNat:=by simp only[dv];omega
  rw[e1,e2]
  have hd:(d.toNat:Int)=d:=by omega
  rw[hd]
  cases l with
  | nil=>simp[dv,cH]
  | cons e m=>rw[Ap h1.2 (fun hh=>by have:=hl (by simp);simpa using this)]
theorem PE:∀(n:Nat) (h:aL n≠[]),(aL n).getLast h≠0:=by
 intro n
 induction n using Nat.strongRecOn with
 | _ n ih =>
  intro h
  have hn:n≠0:=fun h0=>h (pF.2 h0)
  have e:=l4 hn
  by_cases hq:n / 1048576=0
  ·have:aL n=[((n % 1048576:Nat):Int)]:=by rw[e,hq,cH]
   simp only[this,List.getLast_singleton]
   omega
  ·have hne:aL (n / 1048576)≠[]:=fun h0=>hq (pF.1 h0)
   have:=ih (n / 1048576) (by omega) hne
   simp only[e]
   rw[List.getLast_cons hne]
   exact this
theorem RE {a b:Nat} (h:aL a=aL b):a=b:=by
 have:=congrArg dv h
 rw[bP,bP]at this
 omega
theorem fM {n k:Nat} (h:(n:Int)<pw k):(aL n).length≤k:=by
 induction k generalizing n with
 | zero =>
  rw[nn]at h
  have:n=0:=by omega
  rw[this,cH];simp
 | succ k ih =>
  by_cases h0:n=0
  ·rw[h0,cH];simp
  ·rw[l4 h0,List.length_cons]
   rw[jI]at h
   have:=ih (n:=n / 1048576) (by omega)
   omega
theorem eS (n:Nat):(n:Int)<pw (aL n).length:=by
 have:=nP (cL n)
 rwa [bP]at this
theorem wx {n:Nat} (h:n≠0):pw ((aL n).length-1)≤n∧0<(aL n).length:=by
 induction n using Nat.strongRecOn with
 | _ n ih =>
  rw[l4 h,List.length_cons]
  refine⟨?_,by omega⟩
  by_cases hq:n / 1048576=0
  ·rw[hq,cH];simp[nn];omega
  ·obtain⟨h1,h2⟩:=ih (n / 1048576) (by omega) hq
   have:(aL (n / 1048576)).length+1-1=((aL (n / 1048576)).length-1)+1:=by omega
   rw[this,jI]
   omega
theorem AQ {x:Int} (h1 : -9223372036854775808≤x) (h2:x<9223372036854775808):nN .and .i64 x 1048575=x % 1048576:=by
 unfold nN
 simp only
 have e1:(BitVec.ofInt IntKind.i64.bits x &&& BitVec.ofInt IntKind.i64.bits 1048575).toNat=((x % 18446744073709551616).toNat) % 1048576:=by
  rw[BitVec.toNat_and,BitVec.toNat_ofInt,BitVec.toNat_ofInt]
  have e:((1048575:Int) % ((2 ^ IntKind.i64.bits:Nat):Int)).toNat=2 ^ 20-1:=by decide
  rw[e,Nat.and_two_pow_sub_one_eq_mod]
  rfl
 rw[e1,wrap64 (by omega) (by omega)]
 omega
theorem S6 (x:Int):yC .i64 x 20=some (x / 1048576):=by
 unfold yC
 rw[if_neg (by decide)]
 have e:(2:Int) ^ (min (Int.toNat 20) IntKind.i64.bits)=1048576:=by decide
 rw[e,Int.fdiv_eq_ediv_of_nonneg _ (by decide)]
theorem S4 {x:Int} (h0:0≤x) (h:x<8796093022208):D6 .i64 x 20=some (1048576*x):=by
 unfold D6
 rw[if_neg (by decide)]
 have e:(2:Int) ^ (min (Int.toNat 20) IntKind.i64.bits)=1048576:=by decide
 rw[e,wrap64 (by omega) (by omega),Int.mul_comm]
theorem MW {x y:Int} (h0:0≤x) (h:x<8796093022208) (hy:0≤y∧y<1048576):nN .or .i64 (1048576*x) y=1048576*x+y:=by
 unfold nN
 simp only
 have e1:(BitVec.ofInt IntKind.i64.bits (1048576*x) ||| BitVec.ofInt IntKind.i64.bits y).toNat=1048576*x.toNat+y.toNat:=by
  rw[BitVec.toNat_or,BitVec.toNat_ofInt,BitVec.toNat_ofInt]
  have e:((2 ^ IntKind.i64.bits:Nat):Int)=18446744073709551616:=by decide
  rw[e]
  have e2:((1048576*x) % 18446744073709551616).toNat=x.toNat <<< 20:=by rw[Nat.shiftLeft_eq];omega
  have e3:(y % 18446744073709551616).toNat=y.toNat:=by omega
  rw[e2,e3,← Nat.shiftLeft_add_eq_or_of_lt (by omega),Nat.shiftLeft_eq]
  omega
 rw[e1,wrap64 (by omega) (by omega)]
 omega
theorem Xn {n:Nat} (h:n≤17592186044416):LG 8 (n:Int) (n:Int) (0:Int)=some (List.replicate n 0):=by
 unfold LG
 rw[if_pos]
 ·simp
 ·have:(17592186044416:Int)≤maxLen:=by decide
  refine⟨by omega,by omega,by omega,?_⟩
  simp only[Int.toNat_natCast]
  omega
theorem Dh {l m:List Int} (h:l.length+m.length≤17592186044416):iH 8 l m=some (l++m):=by
 unfold iH
 have:(17592186044416:Nat)≤maxLen:=by decide
 rw[if_pos ⟨by omega,by omega⟩]
theorem eF {σ ρ:Type} {body:σ→Option (σ⊕ρ)} (I:Nat→σ→Prop) (n:Nat) (Q:ρ→Prop) {s:σ} (hI:I 0 s) (hn:n+1<FU)
  (hstep:∀i s,i≤n→I i s→(i<n∧∃s',body s=some (.inl s')∧I (i+1) s')∨(∃r,body s=some (.inr r)∧Q r)):∃r,a8 body s=some r∧Q r:=by
 have key:∀(k i:Nat) (s:σ),i≤n→n-i<k→I i s→∃r,l6 body k s=some r∧Q r:=by
  intro k
  induction k with
  | zero=>intro i s _ h;omega
  | succ k ih =>
   intro i s hi hk hI
   rcases hstep i s hi hI with⟨hlt,s',h1,h2⟩|⟨r,h1,h2⟩
   ·obtain⟨r,h3,h4⟩:=ih (i+1) s' (by omega) (by omega) h2
    exact⟨r,by simp only[l6,h1];exact h3,h4⟩
   ·exact⟨r,by simp only[l6,h1],h2⟩
 exact key FU 0 s (Nat.zero_le _) (by omega) hI
theorem OR (i:Nat) (x:Int):pw (i+1)*x=pw i*(1048576*x):=by rw[jI,Int.mul_comm 1048576 (pw i),Int.mul_assoc]
theorem yx (i:Nat) (t:Int):pw i*(t % 1048576)+pw (i+1)*(t / 1048576)=pw i*t:=by
 rw[OR,← Int.mul_add]
 congr 1
 omega
theorem l8 {n:Nat} (h:n≤17592186044416):n+1<FU:=by unfold FU;omega
abbrev Fit (l:List Int):Prop:=l.length≤17592186044416
theorem iJ {x:Int} (h : -4611686018427387904≤x∧x≤4611686018427387904):IntKind.i64.wrap x=x:=wrap64 (by omega) (by omega)
theorem pM {α:Type} (o:Option α):(o.bind fun r=>some r)=o:=by cases o<;>rfl
theorem Gi {l:List Int} (hl:Fit l):∃r,a8 (j6 l) (l.length:Int)=some r∧∃k:Nat,r=k∧k≤l.length∧(∀j (hj:j<l.length),k≤j→l[j]=0)∧(∀h:0<k,∀hk:k-1<l.length,l[k-1]≠0):=by
 unfold Fit at hl
 refine eF (I:=fun i s=>s=((l.length-i:Nat):Int)∧(∀j (hj:j<l.length),l.length-i≤j→l[j]=0)) l.length _ ⟨rfl,fun j hj h=>by omega⟩ (l8 hl) ?_
 rintro i s hi ⟨rfl,hz⟩
 generalize hk:l.length-i=k at *
 simp only[j6]
 by_cases h0:0<k
 ·have hk1:k-1<l.length:=by omega
  have e:IntKind.i64.wrap ((k:Int)-1)=((k-1:Nat):Int):=by rw[iJ (by omega)];omega
  rw[if_pos (by simp;omega),e,cv hk1,Option.bind_some]
  by_cases hx:l[k-1]=0
  ·left
   refine⟨by omega,_,by rw[if_pos (by simpa using hx)],by rw[show l.length-(i+1)=k-1 by omega],fun j hj h =>?_⟩
   by_cases hj':j=k-1
   ·subst hj';exact hx
   ·exact hz j hj (by omega)
  ·right
   exact⟨_,by rw[if_neg (by simpa using hx)],k,rfl,by omega,hz,fun _ _=>hx⟩
 ·right
  exact⟨_,by rw[if_neg (by simp;omega)],k,rfl,by omega,hz,fun h=>absurd h h0⟩
theorem RR {l:List Int} {k:Nat} (hz:∀j (hj:j<l.length),k≤j→l[j]=0):dv (l.drop k)=0:=by
 have:l.drop k=List.replicate (l.drop k).length 0:=by
  refine List.eq_replicate_of_mem fun x hx =>?_
  obtain⟨i,hi,rfl⟩:=List.mem_iff_getElem.1 hx
  rw[List.getElem_drop]
  exact hz _ _ (by omega)
 rw[this,Bt]
theorem xu {l:List Int} (hl:Fit l) (hd:Dg l):eD l=some (aL (dv l).toNat):=by
 obtain⟨r,h1,k,rfl,hk,hz,hlast⟩:=Gi hl
 unfold eD
 rw[h1,Option.bind_some,Az hk,Option.bind_some]
 congr 1
 have h2:dv l=dv (l.take k):=by rw[hZ l hk,RR hz];omega
 rw[h2]
 refine (Ap (hd.take k) fun hne =>?_).symm
 have hk0:0<k:=by
  rcases Nat.eq_zero_or_pos k with h|h
  ·subst h;simp at hne
  ·exact h
 have:=hlast hk0 (by omega)
 rw[List.getLast_eq_getElem]
 simp only[List.length_take,List.getElem_take,Nat.min_eq_left hk]
 exact this
theorem AA {l:List Int} {n:Nat} (hl:Fit l) (hd:Dg l) (hn:dv l=n):eD l=some (aL n):=by
 rw[xu hl hd,hn];rfl
def gd (l:List Int) (i:Nat):Int:=if h:i<l.length then l[i] else 0
theorem Oq {l:List Int} (h:Dg l) (i:Nat):0≤gd l i∧gd l i<1048576:=by
 unfold gd
 split
 ·exact h.get _
 ·omega
theorem wS {l:List Int} (i:Nat):dv (l.take (i+1))=dv (l.take i)+pw i*gd l i:=by
 unfold gd
 split
 ·exact eY _
 ·rw[List.take_of_length_le (by omega),List.take_of_length_le (by omega)];simp
theorem GP {l:List Int} {i:Nat} (h:l.length≤i):dv (l.take i)=dv l:=by rw[List.take_of_length_le h]
theorem wk {l:List Int} (h:Fit l):bD l=some l:=by
 unfold bD
 rw[Dh (by simpa using h),List.nil_append]
theorem Ot {l:List Int} {i:Nat} (h:i<l.length):gd l i=l[i]:=by unfold gd;rw[dif_pos h]
theorem Jl {l:List Int} {i:Nat} (h:l.length≤i):gd l i=0:=by unfold gd;rw[dif_neg (by omega)]
theorem jb {l:List Int} {i:Nat} (h:i<l.length):dv (l.drop i)=l[i]+1048576*dv (l.drop (i+1)):=by
 rw[List.drop_eq_getElem_cons h,dv]
theorem Us {x d:Int} (h:0≤x) (hd:0<d) (hx:x<4611686018427387904):xV .i64 x d=some (x / d):=by
 unfold xV
 rw[if_neg (by omega),Int.tdiv_eq_ediv_of_nonneg h,iJ]
 have:=Int.ediv_nonneg h (Int.le_of_lt hd)
 have:=Int.ediv_le_self d h
 omega
theorem Wm {x d:Int} (h:0≤x) (hd:0<d):tk .i64 x d=some (x % d):=by
 unfold tk
 rw[if_neg (by omega),Int.tmod_eq_emod_of_nonneg h]
theorem M5 {a:List Int} {d:Int} (ha:Dg a) (hd:0<d∧d≤1048576) (hf:Fit a) :
  ∃r,a8 (mO a d) (0,IntKind.i64.wrap ((a.length:Int)-1),List.replicate a.length 0)=some r∧r.2.length=a.length∧Dg r.2∧(0≤r.1∧r.1<d)∧dv a=d*dv r.2+r.1:=by
 unfold Fit at hf
 have e0:IntKind.i64.wrap ((a.length:Int)-1)=(a.length:Int)-1:=iJ (by omega)
 rw[e0]
 refine eF (I:=fun i s=>s.2.1=((a.length-i:Nat):Int)-1∧s.2.2.length=a.length∧Dg s.2.2∧(0≤s.1∧s.1<d)∧dv (a.drop (a.length-i))=d*dv (s.2.2.drop (a.length-i))+s.1)
  a.length _ ⟨rfl,by simp,Dg.rep _,by simp;omega,by simp[dv]⟩ (l8 (by omega)) ?_
 rintro i ⟨r,s,l⟩ hi ⟨h1,hl,hg,hr,he⟩
 simp only at h1 hl hg hr he
 subst h1
 generalize hk:a.length-i=k at *
 simp only[mO]
 by_cases h0:0<k
 ·left
  have hk1:k-1<a.length:=by omega
  have hk2:k-1<l.length:=by omega
  have ek:((k:Int)-1)=((k-1:Nat):Int):=by omega
  have ga:=ha.get hk1
  rw[ek,if_pos (by simp),S4 (by omega) (by omega),Option.bind_some,cv hk1,Option.bind_some,MW (by omega) (by omega) ga,Us (by omega) hd.1 (by omega),Option.bind_some,cv hk2,Option.bind_some,Wm (by omega) hd.1,Option.bind_some]
  have e1:IntKind.i64.wrap (((k-1:Nat):Int)-1)=((k-1:Nat):Int)-1:=iJ (by omega)
  have hx0:0≤1048576*r+a[k-1]:=by omega
  have hq0:0≤(1048576*r+a[k-1]) / d:=Int.ediv_nonneg hx0 (by omega)
  have hq1:(1048576*r+a[k-1]) / d<1048576:=by
   apply Int.ediv_lt_of_lt_mul hd.1
   have:1048576*r≤1048576*(d-1):=Int.mul_le_mul_of_nonneg_left (by omega) (by omega)
   omega
  have hm0:=Int.emod_nonneg (1048576*r+a[k-1]) (show d≠0 by omega)
  have hm1:=Int.emod_lt_of_pos (1048576*r+a[k-1]) hd.1
  refine⟨by omega,_,rfl,by rw[e1,show a.length-(i+1)=k-1 by omega],by simpa using hl,hg.set _ ⟨hq0,hq1⟩,⟨hm0,hm1⟩,?_⟩
  simp only[Int.toNat_natCast]
  rw[show a.length-(i+1)=k-1 by omega,jb hk1,jb (l:=l.set (k-1) _) (i:=k-1) (by simpa using hk2),show k-1+1=k by omega,List.getElem_set_self,List.drop_set_of_lt (by omega),he]
  have:=Int.mul_ediv_add_emod (1048576*r+a[k-1]) d
  rw[Int.mul_add,Int.mul_add]
  have e3:d*(1048576*dv (l.drop k))=1048576*(d*dv (l.drop k)):=by rw[← Int.mul_assoc,Int.mul_comm d,Int.mul_assoc]
  rw[e3]
  omega
 ·right
  have:k=0:=by omega
  subst this
  refine⟨(r,l),by rw[if_neg (by simp)],hl,hg,hr,?_⟩
  simpa using he
theorem Lc {a:List Int} {d:Int} (ha:Dg a) (hd:0<d∧d≤1048576) (hf:Fit a):j5 a d=some (aL (dv a / d).toNat,dv a % d):=by
 obtain⟨⟨r,l⟩,h1,h2,h3,h4,h5⟩:=M5 ha hd hf
 unfold j5
 rw[Xn hf,Option.bind_some,h1,Option.bind_some]
 simp only at h2 h3 h4 h5 ⊢
 rw[xu (by unfold Fit at *;omega) h3,Option.bind_some]
 have e1:dv a / d=dv l:=by
  rw[h5,Int.mul_comm,Int.add_comm,Int.add_mul_ediv_right _ _ (by omega),Int.ediv_eq_zero_of_lt h4.1 h4.2];omega
 have e2:dv a % d=r:=by
  rw[h5,Int.mul_comm,Int.add_comm,Int.add_mul_emod_self_right]
  exact Int.emod_eq_of_lt h4.1 h4.2
 rw[e1,e2]
theorem Qk {b l0:List Int} {x:Int} {i n:Nat} (hb:Dg b) (hx:0≤x∧x<1048576) (h0:Dg l0) (hn:l0.length=n) (hi:i+b.length<n) (hf:n≤17592186044416) (hz:∀j (hj:j<l0.length),i+b.length≤j→l0[j]=0) :
  ∃r,a8 (qw b (i:Int) x) (0,0,l0)=some r∧r.2.length=n∧Dg r.2∧(0≤r.1∧r.1<1048576)∧(∀j (hj:j<r.2.length),i+b.length≤j→r.2[j]=0)∧dv r.2+pw (i+b.length)*r.1=dv l0+pw i*(x*dv b):=by
 refine eF (I:=fun k s=>s.2.1=(k:Int)∧s.2.2.length=n∧Dg s.2.2∧(0≤s.1∧s.1<1048576)∧(∀j (hj:j<s.2.2.length),i+b.length≤j→s.2.2[j]=0)∧dv s.2.2+pw (i+k)*s.1=dv l0+pw i*(x*dv (b.take k)))
  b.length _ ⟨rfl,hn,h0,by simp,hz,by simp[dv]⟩ (l8 (by omega)) ?_
 rintro k ⟨c,s,l⟩ hk ⟨h1,hl,hd,hc,hz,he⟩
 simp only at h1 hl hd hc hz he
 subst h1
 simp only[qw]
 by_cases hlt:k<b.length
 ·left
  have hik:i+k<l.length:=by omega
  have ei:IntKind.i64.wrap ((i:Int)+(k:Int))=((i+k:Nat):Int):=by rw[iJ (by omega)];omega
  have gb:=hb.get hlt
  have gl:=hd.get hik
  have hm0:0≤x*b[k]:=Int.mul_nonneg hx.1 gb.1
  have hm1:x*b[k]≤1048575*1048575:=Int.mul_le_mul (by omega) (by omega) gb.1 (by omega)
  rw[if_pos (by simpa using hlt),cv hlt,Option.bind_some,ei,cv hik,Option.bind_some,iJ (x:=x*b[k]) (by omega),iJ (x:=l[i+k]+x*b[k]) (by omega),iJ (x:=l[i+k]+x*b[k]+c) (by omega),S6,Option.bind_some,AQ (by omega) (by omega)]
  have e1:IntKind.i64.wrap ((k:Int)+1)=((k+1:Nat):Int):=by rw[iJ (by omega)];omega
  refine⟨hlt,_,rfl,e1,by simpa using hl,hd.set _ (by omega),by simp only;omega,fun j hj hij =>?_,?_⟩
  ·simp only[Int.toNat_natCast]at hj ⊢
   rw[List.getElem_set_ne (by omega)]
   exact hz j (by simpa using hj) hij
  ·simp only[Int.toNat_natCast]
   rw[xX hik,eY hlt]
   have hp:=yx (i+k) (l[i+k]+x*b[k]+c)
   rw[Int.mul_add (pw (i+k)),Int.mul_add (pw (i+k))]at hp
   have e2:pw i*(x*(dv (b.take k)+pw k*b[k]))=pw i*(x*dv (b.take k))+pw (i+k)*(x*b[k]):=by
    rw[Int.mul_add,Int.mul_add,Cx]
    congr 1
    rw[Int.mul_left_comm x,← Int.mul_assoc]
   rw[e2,Int.mul_sub,show i+(k+1)=i+k+1 by omega]
   omega
 ·right
  have hkb:k=b.length:=by omega
  subst hkb
  refine⟨(c,l),by rw[if_neg (by simp)],hl,hd,hc,hz,?_⟩
  rw[he,List.take_length]
theorem Qj {a b:List Int} (ha:Dg a) (hb:Dg b) (hf:a.length+b.length≤17592186044416) :
  ∃l,a8 (qv a b) (0,List.replicate (a.length+b.length) 0)=some l∧l.length=a.length+b.length∧Dg l∧dv l=dv a*dv b:=by
 refine eF (I:=fun i s=>s.1=(i:Int)∧s.2.length=a.length+b.length∧Dg s.2∧(∀j (hj:j<s.2.length),i+b.length≤j→s.2[j]=0)∧dv s.2=dv (a.take i)*dv b)
  a.length _ ⟨rfl,by simp,Dg.rep _,fun j hj _=>by simp,by simp[dv,Bt]⟩ (l8 (by omega)) ?_
 rintro i ⟨s,l⟩ hi ⟨h1,hl,hd,hz,he⟩
 simp only at h1 hl hd hz he
 subst h1
 simp only[qv]
 by_cases hlt:i<a.length
 ·left
  have ga:=ha.get hlt
  obtain⟨⟨c,m⟩,g1,g2,g3,g4,g5,g6⟩:=Qk (i:=i) (n:=a.length+b.length) hb ga hd hl (by omega) hf hz
  rw[if_pos (by simpa using hlt),cv hlt,Option.bind_some,g1,Option.bind_some]
  simp only at g2 g3 g4 g5 g6 ⊢
  have ei:IntKind.i64.wrap ((i:Int)+(b.length:Int))=((i+b.length:Nat):Int):=by rw[iJ (by omega)];omega
  have hib:i+b.length<m.length:=by omega
  rw[ei,cv hib,Option.bind_some,g5 _ hib (Nat.le_refl _),Int.zero_add,iJ (x:=c) (by omega)]
  have e1:IntKind.i64.wrap ((i:Int)+1)=((i+1:Nat):Int):=by rw[iJ (by omega)];omega
  refine⟨hlt,_,rfl,e1,by simpa using g2,g3.set _ g4,fun j hj hij =>?_,?_⟩
  ·simp only[Int.toNat_natCast]at hj ⊢
   rw[List.getElem_set_ne (by omega)]
   exact g5 j (by simpa using hj) (by omega)
  ·simp only[Int.toNat_natCast]
   rw[xX hib,g5 _ hib (Nat.le_refl _),Int.sub_zero,g6,he,eY hlt,Int.add_mul,Int.mul_assoc]
 ·right
  have hia:i=a.length:=by omega
  subst hia
  refine⟨l,by rw[if_neg (by simp)],hl,hd,?_⟩
  rw[he,List.take_length]
theorem mul_eq {a b:List Int} (ha:Dg a) (hb:Dg b) (hf:a.length+b.length≤17592186044416):mN a b=some (aL (dv a*dv b).toNat):=by
 obtain⟨l,h1,h2,h3,h4⟩:=Qj ha hb hf
 unfold mN
 have e:IntKind.i64.wrap ((a.length:Int)+(b.length:Int))=((a.length+b.length:Nat):Int):=by rw[iJ (by omega)];omega
 rw[e,Xn hf,Option.bind_some,h1,Option.bind_some,pM,xu (by unfold Fit;omega) h3,h4]
def ld (x y:Int):Int:=if x<y then -1 else if y<x then 1 else 0
theorem LV (x y:Int):fL x y=some (ld x y):=by
 unfold fL ja ld
 simp only[bne_self_eq_false,Option.bind_some,Bool.false_eq_true,if_false,decide_eq_true_eq]
 split
 ·rfl
 ·split<;>rfl
theorem IQ {a b:List Int} (ha:Dg a) (hb:Dg b) (hf:Fit a) (hl:a.length=b.length):fc a b=some (ld (dv a) (dv b)):=by
 unfold Fit at hf
 unfold fc
 rw[if_neg (by simp;omega)]
 have e0:IntKind.i64.wrap ((a.length:Int)-1)=(a.length:Int)-1:=iJ (by omega)
 rw[e0]
 have key:∃r,a8 (ku a b) ((a.length:Int)-1)=some r∧(match r with | .inl _=>ld (dv a) (dv b)=0 | .inr x=>x=ld (dv a) (dv b)):=by
  refine eF (I:=fun i s=>s=((a.length-i:Nat):Int)-1∧a.drop (a.length-i)=b.drop (a.length-i)) a.length _ ⟨rfl,?_⟩ (l8 hf) ?_
  ·rw[List.drop_eq_nil_of_le (by omega),List.drop_eq_nil_of_le (by omega)]
  rintro i s hi ⟨rfl,he⟩
  generalize hk:a.length-i=k at *
  simp only[ku]
  by_cases h0:0<k
  ·have h1:k-1<a.length:=by omega
   have h2:k-1<b.length:=by omega
   have ek:((k:Int)-1)=((k-1:Nat):Int):=by omega
   rw[ek,if_pos (by simp),cv h1,Option.bind_some,cv h2,Option.bind_some]
   by_cases hx:a[k-1]=b[k-1]
   ·left
    rw[if_neg (by simpa using hx)]
    refine⟨by omega,_,rfl,by rw[iJ (by omega)];omega,?_⟩
    rw[show a.length-(i+1)=k-1 by omega,List.drop_eq_getElem_cons h1,List.drop_eq_getElem_cons h2,hx,show k-1+1=k by omega,he]
   ·right
    rw[if_pos (by simpa using hx),LV,Option.bind_some]
    refine⟨_,rfl,?_⟩
    simp only
    have ea:=hZ a (i:=k) (by omega)
    have eb:=hZ b (i:=k) (by omega)
    have ta:=eY h1
    have tb:=eY h2
    rw[show k-1+1=k by omega]at ta tb
    have la:=nP (ha.take (k-1))
    have lb:=nP (hb.take (k-1))
    rw[List.length_take,Nat.min_eq_left (by omega)]at la lb
    have na:=cy (ha.take (k-1))
    have nb:=cy (hb.take (k-1))
    have hp:=lx (k-1)
    rw[ta]at ea
    rw[tb]at eb
    rw[he]at ea
    unfold ld
    rcases Int.lt_or_gt_of_ne hx with hlt|hlt
    ·have:pw (k-1)*a[k-1]+pw (k-1)≤pw (k-1)*b[k-1]:=by
      have:pw (k-1)*(a[k-1]+1)≤pw (k-1)*b[k-1]:=Int.mul_le_mul_of_nonneg_left (by omega) (by omega)
      rwa [Int.mul_add,Int.mul_one]at this
     rw[if_pos hlt,if_pos (by omega)]
    ·have:pw (k-1)*b[k-1]+pw (k-1)≤pw (k-1)*a[k-1]:=by
      have:pw (k-1)*(b[k-1]+1)≤pw (k-1)*a[k-1]:=Int.mul_le_mul_of_nonneg_left (by omega) (by omega)
      rwa [Int.mul_add,Int.mul_one]at this
     rw[if_neg (by omega),if_pos hlt,if_neg (by omega),if_pos (by omega)]
  ·right
   have:k=0:=by omega
   subst this
   refine⟨.inl (),by rw[if_neg (by simp)],?_⟩
   simp only[List.drop_zero]at he
   simp[he,ld]
 obtain⟨r,h1,h2⟩:=key
 rw[h1,Option.bind_some]
 cases r with
 | inl u=>simp only at h2 ⊢;rw[h2]
 | inr x=>simp only at h2 ⊢;rw[h2]
theorem sJ {m n:Nat} (h:(aL m).length<(aL n).length):m<n:=by
 have h1:=eS m
 have hn:n≠0:=fun h0=>by subst h0;rw[cH]at h;simp at h
 have h2:=wx hn
 have h3:=um (i:=(aL m).length) (j:=(aL n).length-1) (by omega)
 omega
theorem eM {m n:Nat} (h:m≤n):(aL m).length≤(aL n).length:=by
 rcases Nat.lt_or_ge (aL n).length (aL m).length with h1|h1
 ·have:=sJ h1;omega
 ·exact h1
theorem Bf {m n:Nat} (hm:Fit (aL m)) (hn:Fit (aL n)):fc (aL m) (aL n)=some (ld m n):=by
 by_cases hl:(aL m).length=(aL n).length
 ·rw[IQ (cL m) (cL n) hm hl,bP,bP]
 ·unfold fc
  rw[if_pos (by simp;omega),LV,pM]
  unfold ld
  rcases Nat.lt_or_gt_of_ne hl with h|h
  ·have:=sJ h
   rw[if_pos (by omega),if_pos (by omega)]
  ·have:=sJ h
   rw[if_neg (by omega),if_pos (by omega),if_neg (by omega),if_pos (by omega)]
theorem HM {u v:List Int} {g:Int} (hu:Dg u) (hv:Dg v) (hg:0≤g∧g≤1048576) (hf:Fit u) (hl:v.length≤u.length) :
  ∃r,a8 (jA u v g) (0,0,u)=some r∧r.2.length=u.length∧Dg r.2∧(0≤r.1∧r.1≤1048576)∧dv r.2+g*dv v=dv u+pw u.length*r.1:=by
 unfold Fit at hf
 refine eF (I:=fun i s=>s.2.1=(i:Int)∧s.2.2.length=u.length∧Dg s.2.2∧(∀j (hj:j<s.2.2.length) (hj':j<u.length),i≤j→s.2.2[j]=u[j])∧(0≤s.1∧s.1≤1048576)∧dv s.2.2+g*dv (v.take i)=dv u+pw i*s.1)
  u.length _ ⟨rfl,rfl,hu,fun j hj _ _=>rfl,by simp,by simp[dv]⟩ (l8 (by omega)) ?_
 rintro i ⟨c,s,l⟩ hi ⟨h1,hll,hd,hz,hc,he⟩
 simp only at h1 hll hd hz hc he
 subst h1
 simp only[jA]
 by_cases hlt:i<u.length
 ·left
  have hli:i<l.length:=by omega
  rw[if_pos (by simpa using hlt),cv hli,Option.bind_some,hz i hli hlt (Nat.le_refl _)]
  have ga:=hu.get hlt
  have gb:=Oq hv i
  have hm0:0≤g*gd v i:=Int.mul_nonneg hg.1 gb.1
  have hm1:g*gd v i≤1048576*1048575:=Int.mul_le_mul (by omega) (by omega) gb.1 (by omega)
  have hT:(if decide ((i:Int)<(v.length:Int))=true then (P.idx v (i:Int)).bind fun x17=>some (IntKind.i64.wrap ((IntKind.i64.wrap (u[i]-c))-(IntKind.i64.wrap (g*x17)))) else some (IntKind.i64.wrap (u[i]-c)))=some (u[i]-c-g*gd v i):=by
   by_cases hib:i<v.length
   ·rw[if_pos (by simpa using hib),cv hib,Option.bind_some]
    rw[Ot hib]at gb hm0 hm1 ⊢
    rw[iJ (x:=u[i]-c) (by omega),iJ (x:=g*v[i]) (by omega),iJ (by omega)]
   ·rw[if_neg (by simpa using hib),Jl (by omega),iJ (by omega)];simp
  rw[hT,Option.bind_some,S6,Option.bind_some,AQ (by omega) (by omega),iJ (x:=0-_) (by omega)]
  have e1:IntKind.i64.wrap ((i:Int)+1)=((i+1:Nat):Int):=by rw[iJ (by omega)];omega
  refine⟨hlt,_,rfl,e1,by simpa using hll,hd.set _ (by omega),fun j hj hj' hij =>?_,by simp only;omega,?_⟩
  ·simp only[Int.toNat_natCast]at hj ⊢
   rw[List.getElem_set_ne (by omega)]
   exact hz j (by simpa using hj) hj' (by omega)
  ·simp only[Int.toNat_natCast]
   rw[xX hli,hz i hli hlt (Nat.le_refl _),wS]
   have hp:=yx i (u[i]-c-g*gd v i)
   rw[Int.mul_sub (pw i),Int.mul_sub (pw i)]at hp
   have e2:g*(dv (v.take i)+pw i*gd v i)=g*dv (v.take i)+pw i*(g*gd v i):=by rw[Int.mul_add,Int.mul_left_comm]
   rw[e2,Int.mul_sub (pw i),Int.mul_sub (pw (i+1)),Int.mul_zero]
   omega
 ·right
  have hia:i=u.length:=by omega
  subst hia
  refine⟨(c,l),by rw[if_neg (by simp)],hll,hd,hc,?_⟩
  rw[GP hl]at he
  exact he
theorem HN {u v:List Int} (hu:Dg u) (hv:Dg v) (hf:Fit u) (hl:v.length≤u.length) :
  ∃l,a8 (jB v u) (0,0,u)=some l∧l.length=u.length∧Dg l∧∃c,0≤c∧dv l+pw u.length*c=dv u+dv v:=by
 unfold Fit at hf
 refine eF (I:=fun i s=>s.2.1=(i:Int)∧s.2.2.length=u.length∧Dg s.2.2∧(∀j (hj:j<s.2.2.length) (hj':j<u.length),i≤j→s.2.2[j]=u[j])∧(0≤s.1∧s.1≤1)∧dv s.2.2+pw i*s.1=dv u+dv (v.take i))
  u.length _ ⟨rfl,rfl,hu,fun j hj _ _=>rfl,by simp,by simp[dv]⟩ (l8 (by omega)) ?_
 rintro i ⟨c,s,l⟩ hi ⟨h1,hll,hd,hz,hc,he⟩
 simp only at h1 hll hd hz hc he
 subst h1
 simp only[jB]
 by_cases hlt:i<u.length
 ·left
  have hli:i<l.length:=by omega
  rw[if_pos (by simpa using hlt),cv hli,Option.bind_some,hz i hli hlt (Nat.le_refl _)]
  have ga:=hu.get hlt
  have gb:=Oq hv i
  have hT:(if decide ((i:Int)<(v.length:Int))=true then (P.idx v (i:Int)).bind fun x35=>some (IntKind.i64.wrap ((IntKind.i64.wrap (c+u[i]))+x35)) else some (IntKind.i64.wrap (c+u[i])))=some (c+u[i]+gd v i):=by
   by_cases hib:i<v.length
   ·rw[if_pos (by simpa using hib),cv hib,Option.bind_some]
    rw[Ot hib]at gb ⊢
    rw[iJ (x:=c+u[i]) (by omega),iJ (by omega)]
   ·rw[if_neg (by simpa using hib),Jl (by omega),iJ (by omega)];simp
  rw[hT,Option.bind_some,S6,Option.bind_some,AQ (by omega) (by omega)]
  have e1:IntKind.i64.wrap ((i:Int)+1)=((i+1:Nat):Int):=by rw[iJ (by omega)];omega
  refine⟨hlt,_,rfl,e1,by simpa using hll,hd.set _ (by omega),fun j hj hj' hij =>?_,by simp only;omega,?_⟩
  ·simp only[Int.toNat_natCast]at hj ⊢
   rw[List.getElem_set_ne (by omega)]
   exact hz j (by simpa using hj) hj' (by omega)
  ·simp only[Int.toNat_natCast]
   rw[xX hli,hz i hli hlt (Nat.le_refl _),wS]
   have hp:=yx i (c+u[i]+gd v i)
   rw[Int.mul_add (pw i),Int.mul_add (pw i)]at hp
   rw[Int.mul_sub (pw i)]
   omega
 ·right
  have hia:i=u.length:=by omega
  subst hia
  refine⟨l,by rw[if_neg (by simp)],hll,hd,c,hc.1,?_⟩
  rw[GP hl]at he
  exact he
theorem QB {u v:List Int} {g:Int} (hu:Dg u) (hv:Dg v) (hf:Fit u) (hl:v.length≤u.length) (hV:0<dv v) (hg0:dv u / dv v≤g) (hg1:g≤dv u / dv v+1) (hgB:g≤1048576) :
  ∃l,eW u v g=some (l,dv u / dv v)∧l.length=u.length∧Dg l∧dv l=dv u % dv v:=by
 have hq0:0≤dv u / dv v:=Int.ediv_nonneg (cy hu) (by omega)
 obtain⟨⟨c,l⟩,h1,h2,h3,h4,h5⟩:=HM hu hv ⟨by omega,hgB⟩ hf hl
 simp only at h2 h3 h4 h5
 have hm:=Int.mul_ediv_add_emod (dv u) (dv v)
 have hm0:=Int.emod_nonneg (dv u) (show dv v≠0 by omega)
 have hm1:=Int.emod_lt_of_pos (dv u) hV
 have hll:=nP h3
 have hl0:=cy h3
 rw[h2]at hll
 have hp:=lx u.length
 have hvl:dv v<pw u.length:=Int.lt_of_lt_of_le (nP hv) (um hl)
 unfold eW nM
 rw[h1,Option.bind_some]
 simp only
 rcases (show g=dv u / dv v∨g=dv u / dv v+1 by omega) with hg|hg
 ·have hgv:g*dv v=dv v*(dv u / dv v):=by rw[hg,Int.mul_comm]
  have hc0:c=0:=by
   rcases (show c=0∨1≤c by omega) with h|h
   ·exact h
   ·have:pw u.length*1≤pw u.length*c:=Int.mul_le_mul_of_nonneg_left h (by omega)
    omega
  subst hc0
  rw[if_pos (by simp),Option.bind_some,if_pos (by simpa using h2)]
  exact⟨l,by rw[hg],h2,h3,by rw[Int.mul_zero]at h5;omega⟩
 ·have hgv:g*dv v=dv v*(dv u / dv v)+dv v:=by rw[hg,Int.add_mul,Int.one_mul,Int.mul_comm]
  have hc0:c≠0:=by
   intro h
   subst h
   rw[Int.mul_zero]at h5
   omega
  obtain⟨m,g1,g2,g3,d,g4,g5⟩:=HN h3 hv (by unfold Fit at *;omega) (by omega)
  rw[if_neg (by simpa using hc0),g1,Option.bind_some,Option.bind_some,if_pos (by simp;omega)]
  refine⟨m,by rw[iJ (by omega),hg];simp,by omega,g3,?_⟩
  rw[h2]at g5
  have hml:=nP g3
  have hm0':=cy g3
  rw[g2,h2]at hml
  have hcd:c=d:=by
   rcases Int.lt_trichotomy c d with h|h|h
   ·have:pw u.length*(c+1)≤pw u.length*d:=Int.mul_le_mul_of_nonneg_left (by omega) (by omega)
    rw[Int.mul_add,Int.mul_one]at this
    omega
   ·exact h
   ·have:pw u.length*(d+1)≤pw u.length*c:=Int.mul_le_mul_of_nonneg_left (by omega) (by omega)
    rw[Int.mul_add,Int.mul_one]at this
    omega
  subst hcd
  omega
theorem Mk {v u:List Int} {s13:Int} {v1 v2 w2 T V W:Int} {n:Nat} (hn:2≤n) (hlen:v.length=n) (hfv:n≤17592186044416) (i:Nat) (hs:s13=i) (hfi:i+n≤17592186044416)
  (hv2:P.idx v (((n-2:Nat)):Int)=some v2) (hw2:P.idx u (((i+n-2:Nat)):Int)=some w2)
  (b1:524288≤v1∧v1<1048576) (b2:0≤v2∧v2<1048576) (bw:0≤w2∧w2<1048576) (hT0:0≤T) (hT1:T<1048576*1048576)
  (hV:pw (n-2)*(v1*1048576+v2)≤V∧V<pw (n-2)*(v1*1048576+v2+1)) (hW:pw (n-2)*(T*1048576+w2)≤W∧W<pw (n-2)*(T*1048576+w2+1)) (hWV:W<1048576*V) :
  ∃g,a8 (qu v s13 u v1) (T / v1,T % v1)=some g∧W / V≤g∧g≤W / V+1∧g≤1048576:=by
 subst hs
 have hp:=lx (n-2)
 have hVp:0<V:=by
  have:pw (n-2)*1≤pw (n-2)*(v1*1048576+v2):=Int.mul_le_mul_of_nonneg_left (by omega) (by omega)
  omega
 have hW0:0≤W:=by
  have:0≤pw (n-2)*(T*1048576+w2):=Int.mul_nonneg (by omega) (by omega)
  omega
 have hq0:0≤W / V:=Int.ediv_nonneg hW0 (by omega)
 have hqB:W / V<1048576:=Int.ediv_lt_of_lt_mul hVp hWV
 have hm:=Int.mul_ediv_add_emod T v1
 have hm0:=Int.emod_nonneg T (show v1≠0 by omega)
 have hm1:=Int.emod_lt_of_pos T (show 0<v1 by omega)
 have hd0:0≤T / v1:=Int.ediv_nonneg hT0 (by omega)
 have hd1:T / v1≤2097152:=by
  have:T / v1<2097153:=Int.ediv_lt_of_lt_mul (by omega) (by
   have:2097153*524288≤2097153*v1:=Int.mul_le_mul_of_nonneg_left b1.1 (by omega)
   omega)
  omega
 have hge:∀g r:Int,g*v1+r=T→W / V≤g→g*v2>r*1048576+w2→W / V≤g-1:=by
  intro g r h1 h2 h3
  have h4:W<g*V:=by
   have e1:g*(v1*1048576+v2)≥T*1048576+w2+1:=by
    rw[← h1]
    have:g*(v1*1048576+v2)=g*v1*1048576+g*v2:=by rw[Int.mul_add,Int.mul_assoc]
    rw[this,Int.add_mul]
    omega
   have e2:pw (n-2)*(T*1048576+w2+1)≤pw (n-2)*(g*(v1*1048576+v2)):=Int.mul_le_mul_of_nonneg_left e1 (by omega)
   have e3:g*(pw (n-2)*(v1*1048576+v2))≤g*V:=Int.mul_le_mul_of_nonneg_left hV.1 (by omega)
   have e4:pw (n-2)*(g*(v1*1048576+v2))=g*(pw (n-2)*(v1*1048576+v2)):=Int.mul_left_comm _ _ _
   omega
  have:=Int.ediv_lt_of_lt_mul hVp h4
  omega
 have hle:∀g r:Int,g*v1+r=T→0≤g→g≤1048576→g*v2≤r*1048576+w2→g≤W / V+1:=by
  intro g r h1 h0 hB h3
  have e1:g*(v1*1048576+v2)≤T*1048576+w2:=by
   rw[← h1]
   have:g*(v1*1048576+v2)=g*v1*1048576+g*v2:=by rw[Int.mul_add,Int.mul_assoc]
   rw[this,Int.add_mul]
   omega
  have e2:g*V≤W+V:=by
   have f1:g*V≤g*(pw (n-2)*(v1*1048576+v2+1)):=Int.mul_le_mul_of_nonneg_left (by omega) h0
   have f2:g*(pw (n-2)*(v1*1048576+v2+1))=pw (n-2)*(g*(v1*1048576+v2))+pw (n-2)*g:=by
    rw[Int.mul_left_comm,Int.mul_add g,Int.mul_one,Int.mul_add]
   have f3:pw (n-2)*(g*(v1*1048576+v2))≤pw (n-2)*(T*1048576+w2):=Int.mul_le_mul_of_nonneg_left e1 (by omega)
   have f4:pw (n-2)*g≤pw (n-2)*(v1*1048576+v2):=Int.mul_le_mul_of_nonneg_left (by omega) (by omega)
   omega
  have e3:(g-1)*V≤W:=by rw[Int.sub_mul,Int.one_mul];omega
  have:=Int.le_ediv_of_mul_le hVp e3
  omega
 have hbase:W / V≤T / v1:=by
  have e1:W<(T / v1+1)*V:=by
   have f1:T+1≤(T / v1+1)*v1:=by
    have:(T / v1+1)*v1=v1*(T / v1)+v1:=by rw[Int.add_mul,Int.one_mul,Int.mul_comm]
    omega
   have f2:T*1048576+w2+1≤(T / v1+1)*(v1*1048576+v2):=by
    have g1:(T+1)*1048576≤(T / v1+1)*v1*1048576:=Int.mul_le_mul_of_nonneg_right f1 (by omega)
    have g2:0≤(T / v1+1)*v2:=Int.mul_nonneg (by omega) b2.1
    rw[Int.mul_add,← Int.mul_assoc]
    omega
   have f3:pw (n-2)*(T*1048576+w2+1)≤pw (n-2)*((T / v1+1)*(v1*1048576+v2)):=Int.mul_le_mul_of_nonneg_left f2 (by omega)
   have f4:(T / v1+1)*(pw (n-2)*(v1*1048576+v2))≤(T / v1+1)*V:=Int.mul_le_mul_of_nonneg_left hV.1 (by omega)
   have f5:pw (n-2)*((T / v1+1)*(v1*1048576+v2))=(T / v1+1)*(pw (n-2)*(v1*1048576+v2)):=Int.mul_left_comm _ _ _
   omega
  have:=Int.ediv_lt_of_lt_mul hVp e1
  omega
 refine eV (I:=fun (s:Int×Int)=>s.1*v1+s.2=T∧W / V≤s.1∧s.1≤2097152∧0≤s.2) (μ:=fun (s:Int×Int)=>s.1.toNat) _ ⟨?_,hbase,hd1,hm0⟩ (by unfold FU;omega) ?_
 ·show T / v1*v1+T % v1=T
  rw[Int.mul_comm];exact hm
 rintro⟨g,r⟩ ⟨h1,h2,h3,h4⟩
 simp only at h1 h2 h3 h4
 have hgv:0≤g*v1:=Int.mul_nonneg (by omega) (by omega)
 simp only[qu]
 have el:IntKind.i64.wrap ((v.length:Int)-2)=((n-2:Nat):Int):=by rw[hlen,iJ (by omega)];omega
 have ei:IntKind.i64.wrap ((IntKind.i64.wrap ((i:Int)+(v.length:Int)))-2)=((i+n-2:Nat):Int):=by rw[hlen,iJ (x:=(i:Int)+n) (by omega),iJ (by omega)];omega
 rw[el,ei]
 have hstep:W / V≤g-1→∃s':Int×Int,(some (Sum.inl (IntKind.i64.wrap (g-1),IntKind.i64.wrap (r+v1))):Option ((Int×Int)⊕Int))=some (.inl s')∧(s'.1*v1+s'.2=T∧W / V≤s'.1∧s'.1≤2097152∧0≤s'.2)∧s'.1.toNat<g.toNat:=by
  intro hlt
  refine⟨_,rfl,?_⟩
  rw[iJ (x:=g-1) (by omega),iJ (x:=r+v1) (by omega)]
  simp only
  refine⟨⟨by rw[Int.sub_mul,Int.one_mul];omega,hlt,by omega,by omega⟩,by omega⟩
 by_cases hgB:g≥1048576
 ·rw[if_pos (by simpa using hgB),Option.bind_some,if_pos rfl]
  exact .inl (hstep (by omega))
 ·rw[if_neg (by simpa using hgB)]
  by_cases hr:r<1048576
  ·have hgv2:0≤g*v2:=Int.mul_nonneg (by omega) b2.1
   have hgv2':g*v2≤1048576*1048576:=Int.mul_le_mul (by omega) (by omega) b2.1 (by omega)
   rw[if_pos (by simpa using hr),hv2,Option.bind_some,S4 h4 (by omega),Option.bind_some,hw2,Option.bind_some,iJ (x:=g*v2) (by omega),MW h4 (by omega) bw,Option.bind_some]
   by_cases ht:g*v2>1048576*r+w2
   ·rw[if_pos (by simpa using ht)]
    exact .inl (hstep (hge g r h1 h2 (by omega)))
   ·rw[if_neg (by simpa using ht)]
    exact .inr ⟨g,rfl,h2,hle g r h1 (by omega) (by omega) (by omega),by omega⟩
  ·rw[if_neg (by simpa using hr),Option.bind_some,if_neg (by simp)]
   refine .inr ⟨g,rfl,h2,hle g r h1 (by omega) (by omega) ?_,by omega⟩
   have:g*v2≤1048575*1048575:=Int.mul_le_mul (by omega) (by omega) b2.1 (by omega)
   have:1048576*1048576≤r*1048576:=Int.mul_le_mul_of_nonneg_right (by omega) (by omega)
   omega
theorem Wv {α:Type} {l:List α} {a b:Nat} (h:a≤b) (hb:b≤l.length):CV l (a:Int) (b:Int)=some ((l.drop a).take (b-a)):=by
 unfold CV
 rw[if_pos ⟨by omega,by omega,by omega⟩]
 simp
theorem Uu {l:List Int} {n:Nat} (hl:l.length=n) (hn:2≤n) (hd:Dg l) :
  pw (n-2)*((l[n-1]'(by omega))*1048576+l[n-2]'(by omega))≤dv l∧dv l<pw (n-2)*((l[n-1]'(by omega))*1048576+l[n-2]'(by omega)+1):=by
 have e:=hZ l (i:=n-2) (by omega)
 rw[jb (by omega),jb (i:=n-2+1) (by omega),List.drop_eq_nil_of_le (by omega)]at e
 have e1:l[n-2+1]'(by omega)=l[n-1]'(by omega):=by congr 1;omega
 rw[e1]at e
 have h1:=cy (hd.take (n-2))
 have h2:=nP (hd.take (n-2))
 rw[List.length_take,Nat.min_eq_left (by omega)]at h2
 simp only[dv]at e
 have e2:l[n-2]'(by omega)+1048576*(l[n-1]'(by omega)+1048576*0)=(l[n-1]'(by omega))*1048576+l[n-2]'(by omega):=by omega
 rw[e2]at e
 rw[Int.mul_add (pw (n-2)) _ 1,Int.mul_one]
 omega
theorem Uv {l:List Int} {n:Nat} (hl:l.length=n+1) (hn:2≤n) (hd:Dg l) :
  pw (n-2)*((1048576*(l[n]'(by omega))+l[n-1]'(by omega))*1048576+l[n-2]'(by omega))≤dv l∧dv l<pw (n-2)*((1048576*(l[n]'(by omega))+l[n-1]'(by omega))*1048576+l[n-2]'(by omega)+1):=by
 have e:=hZ l (i:=n-2) (by omega)
 rw[jb (by omega),jb (i:=n-2+1) (by omega),jb (i:=n-2+1+1) (by omega),List.drop_eq_nil_of_le (by omega)]at e
 have e1:l[n-2+1]'(by omega)=l[n-1]'(by omega):=by congr 1;omega
 have e3:l[n-2+1+1]'(by omega)=l[n]'(by omega):=by congr 1;omega
 rw[e1,e3]at e
 have h1:=cy (hd.take (n-2))
 have h2:=nP (hd.take (n-2))
 rw[List.length_take,Nat.min_eq_left (by omega)]at h2
 simp only[dv]at e
 have e2:l[n-2]'(by omega)+1048576*(l[n-1]'(by omega)+1048576*(l[n]'(by omega)+1048576*0))=(1048576*(l[n]'(by omega))+l[n-1]'(by omega))*1048576+l[n-2]'(by omega):=by omega
 rw[e2]at e
 rw[Int.mul_add (pw (n-2)) _ 1,Int.mul_one]
 omega
theorem RF {v u0:List Int} {n m:Nat} (hv:Dg v) (hvl:v.length=n) (hn:2≤n) (hv1:524288≤v[n-1]'(by omega)) (hu:Dg u0) (hul:u0.length=m+n) (hf:m+n≤17592186044416) (hdr:dv (u0.drop m)<dv v) :
  ∃r,a8 (qt v) ((m:Int)-1,u0,List.replicate m 0)=some r∧r.1.length=m+n∧Dg r.1∧r.2.length=m∧Dg r.2∧dv r.1+dv v*dv r.2=dv u0∧dv r.1<dv v:=by
 have hvn:=nP hv
 rw[hvl]at hvn
 refine eF (I:=fun i s=>s.1=((m-i:Nat):Int)-1∧s.2.1.length=m+n∧Dg s.2.1∧s.2.2.length=m∧Dg s.2.2∧(∀j (hj:j<s.2.2.length),j<m-i→s.2.2[j]=0)∧dv s.2.1+dv v*dv s.2.2=dv u0∧dv (s.2.1.drop (m-i))<dv v)
  m _ ⟨rfl,hul,hu,by simp,Dg.rep _,fun j hj _=>by simp,by simp[Bt],hdr⟩ (l8 (by omega)) ?_
 rintro i ⟨s,u,q⟩ hi ⟨h1,hl,hd,hql,hqd,hz,he,hdr⟩
 simp only at h1 hl hd hql hqd hz he hdr
 subst h1
 generalize hk:m-i=k at *
 simp only[qt]
 by_cases h0:0<k
 ·left
  have ek:((k:Int)-1)=((k-1:Nat):Int):=by omega
  rw[ek,if_pos (by simp)]
  have e1:IntKind.i64.wrap (((k-1:Nat):Int)+(v.length:Int))=((k-1+n:Nat):Int):=by rw[hvl,iJ (by omega)];omega
  have e2:IntKind.i64.wrap (((k-1+n:Nat):Int)-1)=((k-1+n-1:Nat):Int):=by rw[iJ (by omega)];omega
  have e3:IntKind.i64.wrap ((v.length:Int)-1)=((n-1:Nat):Int):=by rw[hvl,iJ (by omega)];omega
  have e4:IntKind.i64.wrap (((k-1+n:Nat):Int)+1)=((k-1+n+1:Nat):Int):=by rw[iJ (by omega)];omega
  have e5:IntKind.i64.wrap (((k-1:Nat):Int)-1)=((k-1:Nat):Int)-1:=iJ (by omega)
  rw[e1,e2,e3,e4,e5]
  have i1:k-1+n<u.length:=by omega
  have i2:k-1+n-1<u.length:=by omega
  have i3:k-1+n-2<u.length:=by omega
  have iv:n-1<v.length:=by omega
  have iv2:n-2<v.length:=by omega
  have g1:=hd.get i1
  have g2:=hd.get i2
  have g3:=hd.get i3
  have gv:=hv.get iv
  have gv2:=hv.get iv2
  rw[cv i1,Option.bind_some,S4 g1.1 (by omega),Option.bind_some,cv i2,Option.bind_some,cv iv,Option.bind_some,MW g1.1 (by omega) g2,Us (by omega) (by omega) (by omega),Option.bind_some,Wm (by omega) (by omega),Option.bind_some,Wv (by omega) (by omega),show k-1+n+1-(k-1)=n+1 by omega]
  generalize hw:(u.drop (k-1)).take (n+1)=w
  have hwl:w.length=n+1:=by rw[← hw,List.length_take,List.length_drop];omega
  have hwd:Dg w:=by rw[← hw];exact (hd.drop _).take _
  have hwg:∀j (hj:j<n+1),w[j]'(by omega)=u[k-1+j]'(by omega):=by
   intro j hj
   subst hw
   rw[List.getElem_take,List.getElem_drop]
  have hup:dv (u.drop (k+n))=0:=by
   have s1:=hZ (u.drop k) (i:=n) (by rw[List.length_drop];omega)
   rw[List.drop_drop]at s1
   have n1:=cy ((hd.drop k).take n)
   have n2:=cy (hd.drop (k+n))
   have hp:=lx n
   rcases (show dv (u.drop (k+n))=0∨1≤dv (u.drop (k+n)) by omega) with h|h
   ·exact h
   ·have:pw n*1≤pw n*dv (u.drop (k+n)):=Int.mul_le_mul_of_nonneg_left h (by omega)
    omega
  have hW:dv w=dv (u.drop (k-1)):=by
   have s1:=hZ (u.drop (k-1)) (i:=n+1) (by rw[List.length_drop];omega)
   rw[List.drop_drop,show k-1+(n+1)=k+n by omega,hup,hw]at s1
   omega
  have hWk:dv w=u[k-1]+1048576*dv (u.drop k):=by
   rw[hW,jb (by omega),show k-1+1=k by omega]
  have gk:=hd.get (show k-1<u.length by omega)
  have hWV:dv w<1048576*dv v:=by omega
  have t2:=Uu hvl hn hv
  have t3:=Uv hwl hn hwd
  rw[hwg n (by omega),hwg (n-1) (by omega),hwg (n-2) (by omega)]at t3
  have a1:u[k-1+(n-1)]'(by omega)=u[k-1+n-1]'(by omega):=by congr 1;omega
  have a2:u[k-1+(n-2)]'(by omega)=u[k-1+n-2]'(by omega):=by congr 1;omega
  rw[a1,a2]at t3
  obtain⟨g,q1,q2,q3,q4⟩:=Mk (s13:=((k-1:Nat):Int)) hn hvl (by omega) (k-1) rfl (by omega) (cv iv2) (cv i3) ⟨hv1,gv.2⟩ gv2 g3 (T:=1048576*u[k-1+n]+u[k-1+n-1]) (by omega) (by omega) t2 t3 hWV
  rw[q1,Option.bind_some,Option.bind_some]
  have hVp:0<dv v:=by
   have:=cy hwd
   omega
  obtain⟨l,r1,r2,r3,r4⟩:=QB hwd hv (by unfold Fit;omega) (by omega) hVp q2 q3 q4
  have iq:k-1<q.length:=by omega
  rw[r1,Option.bind_some,cv iq,Option.bind_some]
  simp only
  have hq0:0≤dv w / dv v:=Int.ediv_nonneg (cy hwd) (by omega)
  have hqB:dv w / dv v<1048576:=Int.ediv_lt_of_lt_mul hVp hWV
  have hmod:=Int.emod_lt_of_pos (dv w) hVp
  simp only[Int.toNat_natCast]
  have hdl:dv (l++u.drop (k-1+n+1))=dv w % dv v:=by
   rw[fk,show k-1+n+1=k+n by omega,hup,r4];omega
  have hut:(u.take (k-1)).length=k-1:=by rw[List.length_take];omega
  have hdu:dv (u.take (k-1)++(l++u.drop (k-1+n+1)))=dv (u.take (k-1))+pw (k-1)*(dv w % dv v):=by rw[fk,hut,hdl]
  refine⟨by omega,_,rfl,by rw[show m-(i+1)=k-1 by omega],?_,(hd.take _).append (r3.append (hd.drop _)),by simpa using hql,hqd.set _ ⟨hq0,hqB⟩,fun j hj hjk =>?_,?_,?_⟩
  ·simp only[List.length_append,List.length_take,List.length_drop];omega
  ·rw[List.getElem_set_ne (by omega)]
   exact hz j (by simpa using hj) (by omega)
  ·rw[hdu,xX iq,hz _ iq (by omega),Int.sub_zero,Int.mul_add]
   have s2:=hZ u (i:=k-1) (by omega)
   rw[← hW]at s2
   have hm:=Int.mul_ediv_add_emod (dv w) (dv v)
   have:pw (k-1)*dv w=dv v*(pw (k-1)*(dv w / dv v))+pw (k-1)*(dv w % dv v):=by
    rw[Int.mul_left_comm,← Int.mul_add,hm]
   omega
  ·rw[show m-(i+1)=k-1 by omega,List.drop_append,hut,Nat.sub_self,List.drop_zero,List.drop_eq_nil_of_le (by omega),List.nil_append,hdl]
   exact hmod
 ·right
  have:k=0:=by omega
  subst this
  refine⟨(u,q),by rw[if_neg (by simp)],hl,hd,hql,hqd,he,?_⟩
  simpa using hdr
theorem M4 {v:List Int} {t:Int} {n:Nat} (hl:v.length=n) (hn:0<n) (hf:n≤17592186044416) (ht:v[n-1]'(by omega)=t) (h1:1≤t) (h2:t<1048576) :
  ∃s,a8 (qq v) 1=some s∧∃j:Nat,s=2 ^ j∧j≤19∧524288≤t*s∧t*s<1048576:=by
 refine eF (I:=fun i s=>s=2 ^ i∧t*s<1048576) 20 _ ⟨rfl,by omega⟩ (by unfold FU;omega) ?_
 rintro i s hi ⟨rfl,hb⟩
 have hp:(0:Int)<2 ^ i:=Int.pow_pos (by decide)
 have hpt:(2:Int) ^ i≤t*2 ^ i:=by
  have:1*(2:Int) ^ i≤t*2 ^ i:=Int.mul_le_mul_of_nonneg_right h1 (by omega)
  omega
 have hi20:i≤19:=by
  rcases Nat.lt_or_ge 19 i with h|h
  ·have hx:i=20:=by omega
   subst hx
   omega
  ·exact h
 simp only[qq]
 have e:IntKind.i64.wrap ((v.length:Int)-1)=((n-1:Nat):Int):=by rw[hl,iJ (by omega)];omega
 rw[e,cv (by omega),Option.bind_some,ht,iJ (x:=t*2 ^ i) (by omega)]
 by_cases h:t*2 ^ i<524288
 ·left
  rw[if_pos (by simpa using h)]
  refine⟨by omega,_,rfl,by rw[iJ (by omega),Int.pow_succ],?_⟩
  rw[iJ (by omega),← Int.mul_assoc]
  omega
 ·right
  rw[if_neg (by simpa using h)]
  exact⟨_,rfl,i,rfl,hi20,by omega,hb⟩
theorem div_eq {m n:Nat} (hn:n≠0) (hfm:(aL m).length≤17592186043904) (hfn:(aL n).length≤17592186043904):qp (aL m) (aL n)=some (aL (m / n),aL (m % n)):=by
 unfold qp
 rw[Bf (by unfold Fit;omega) (by unfold Fit;omega),Option.bind_some]
 by_cases hlt:m<n
 ·have:ld (m:Int) n<0:=by unfold ld;rw[if_pos (by omega)];decide
  rw[if_pos (by simpa using this),wk (by unfold Fit;omega),Option.bind_some,Nat.div_eq_of_lt hlt,Nat.mod_eq_of_lt hlt,cH]
 have:¬ld (m:Int) n<0:=by unfold ld;rw[if_neg (by omega)];split<;>decide
 rw[if_neg (by simpa using this)]
 obtain⟨hp1,hp2⟩:=wx hn
 have hnl:=eS n
 by_cases h1:(aL n).length=1
 ·rw[if_pos (by simp;omega)]
  have hnB:(n:Int)<1048576:=by rw[h1]at hnl;simpa [pw] using hnl
  have e:aL n=[(n:Int)]:=by
   rw[l4 hn,Nat.div_eq_of_lt (by omega),cH,Nat.mod_eq_of_lt (by omega)]
  have ei:P.idx (aL n) 0=some (n:Int):=by rw[e];rfl
  rw[ei,Option.bind_some,Lc (cL m) ⟨by omega,by omega⟩ (by unfold Fit;omega),Option.bind_some,bP]
  have hm1:(m:Int) % n=((m % n:Nat):Int):=(Int.natCast_emod m n).symm
  have hm2:((m:Int) / n).toNat=m / n:=by
   rw[← Int.natCast_ediv];rfl
  have hml:m % n<n:=Nat.mod_lt _ (by omega)
  simp only[hm1,hm2]
  rw[AA (n:=m % n) (by simp[Fit]) (Dg.mk (by omega) Dg.nil) (by simp[dv]),Option.bind_some]
 ·rw[if_neg (by simp;omega)]
  generalize hN:(aL n).length=N at *
  have hN2:2≤N:=by omega
  have hdn:=cL n
  have gt:=hdn.get (show N-1<(aL n).length by omega)
  generalize ht:(aL n)[N-1]'(by omega)=t at gt
  have hsp:=hZ (aL n) (i:=N-1) (by omega)
  rw[bP,jb (by omega),List.drop_eq_nil_of_le (by omega),ht]at hsp
  simp only[dv,Int.mul_zero,Int.add_zero]at hsp
  have lo0:=cy (hdn.take (N-1))
  have lo1:=nP (hdn.take (N-1))
  rw[List.length_take,Nat.min_eq_left (by omega)]at lo1
  have hpw:=lx (N-1)
  have ht1:1≤t:=by
   rcases (show t=0∨1≤t by omega) with h|h
   ·subst h;omega
   ·exact h
  obtain⟨s,hs1,j,hs2,hj,hs3,hs4⟩:=M4 hN (by omega) (by omega) ht ht1 gt.2
  have hj2:(2:Int) ^ j≤524288:=by
   have:∀j:Nat,j≤19→(2:Int) ^ j≤524288:=by decide
   exact this j hj
  have hj1:(0:Int)<2 ^ j:=Int.pow_pos (by decide)
  have hts:(t+1)*s≤1048576:=by
   have h20:(1048576:Int)=2 ^ (20-j)*2 ^ j:=by rw[← Int.pow_add,Nat.sub_add_cancel (by omega)];rfl
   rw[h20]at hs4 ⊢
   rw[hs2]at hs4 ⊢
   have:t<2 ^ (20-j):=Int.lt_of_mul_lt_mul_right hs4 (by omega)
   exact Int.mul_le_mul_of_nonneg_right (by omega) (by omega)
  rw[← hs2]at hj1 hj2
  obtain⟨S,rfl⟩:∃S:Nat,s=S:=⟨s.toNat,by omega⟩
  have hSd:Dg [(S:Int)]:=Dg.mk (by omega) Dg.nil
  have hdvS:dv [(S:Int)]=S:=by simp[dv]
  rw[hs1,Option.bind_some,mul_eq (cL m) hSd (by simp;omega),Option.bind_some,bP,hdvS]
  have em:((m:Int)*S).toNat=m*S:=by rw[← Int.natCast_mul];rfl
  have en:((n:Int)*S).toNat=n*S:=by rw[← Int.natCast_mul];rfl
  rw[em]
  have hmS:(aL (m*S)).length≤(aL m).length+1:=by
   apply fM
   rw[jI,Int.natCast_mul]
   have a1:=eS m
   have:(m:Int)*S≤m*1048576:=Int.mul_le_mul_of_nonneg_left (by omega) (by omega)
   omega
  have hU:∃u,((if ((((aL (m*S)++[0]).length:Int))==((aL m).length:Int))=true then (iH 8 (aL (m*S)++[0]) [0]).bind fun x98=>some x98 else some (aL (m*S)++[0]))=some u)∧Dg u∧dv u=(m*S:Nat)∧dv u<pw (u.length-1)∧(aL (m*S)).length+1≤u.length∧u.length≤(aL m).length+3:=by
   have d1:Dg (aL (m*S)++[0]):=(cL _).append (Dg.mk (by omega) Dg.nil)
   have v1:dv (aL (m*S)++[0])=(m*S:Nat):=by rw[fk,bP];simp[dv]
   have v2:=eS (m*S)
   split
   ·rw[Dh (by simp;omega),Option.bind_some]
    refine⟨_,rfl,d1.append (Dg.mk (by omega) Dg.nil),by rw[fk,v1];simp[dv],?_,by simp,by simp;omega⟩
    rw[fk,v1]
    simp only[dv,List.length_append,List.length_cons,List.length_nil]
    have:=um (i:=(aL (m*S)).length) (j:=(aL (m*S)).length+1) (by omega)
    rw[show (aL (m*S)).length+(0+1)+(0+1)-1=(aL (m*S)).length+1 by omega]
    omega
   ·refine⟨_,rfl,d1,v1,?_,by simp,by simp;omega⟩
    rw[v1]
    simpa using v2
  obtain⟨u,hu1,hu2,hu3,hu4,hu5,hu6⟩:=hU
  rw[Dh (by simp;omega),Option.bind_some,mul_eq (cL n) hSd (by simp;omega),Option.bind_some,bP,hdvS,en,hu1,Option.bind_some]
  have hVlo:524288*pw (N-1)≤((n*S:Nat):Int):=by
   rw[Int.natCast_mul,hsp,Int.add_mul]
   have a1:0≤dv ((aL n).take (N-1))*S:=Int.mul_nonneg lo0 (by omega)
   have a2:pw (N-1)*524288≤pw (N-1)*(t*S):=Int.mul_le_mul_of_nonneg_left hs3 (by omega)
   rw[Int.mul_assoc]
   omega
  have hVhi:((n*S:Nat):Int)<pw N:=by
   have a0:pw N=1048576*pw (N-1):=by rw[← jI];congr 1;omega
   rw[a0,Int.natCast_mul,hsp]
   have a1:(dv ((aL n).take (N-1))+pw (N-1)*t+1)*S≤(pw (N-1)*(t+1))*S:=Int.mul_le_mul_of_nonneg_right (by rw[Int.mul_add];omega) (by omega)
   have a2:pw (N-1)*((t+1)*S)≤pw (N-1)*1048576:=Int.mul_le_mul_of_nonneg_left hts (by omega)
   rw[Int.mul_assoc]at a1
   rw[Int.add_mul _ 1,Int.one_mul]at a1
   omega
  have hVN:(aL (n*S)).length=N:=by
   have a1:=fM hVhi
   rcases Nat.lt_or_ge (aL (n*S)).length N with h|h
   ·have a2:=eS (n*S)
    have a3:=um (i:=(aL (n*S)).length) (j:=N-1) (by omega)
    omega
   ·omega
  have hV1:524288≤(aL (n*S))[N-1]'(by omega):=by
   have a1:=hZ (aL (n*S)) (i:=N-1) (by omega)
   rw[bP,jb (by omega),List.drop_eq_nil_of_le (by omega)]at a1
   simp only[dv,Int.mul_zero,Int.add_zero]at a1
   have a2:=nP ((cL (n*S)).take (N-1))
   rw[List.length_take,Nat.min_eq_left (by omega)]at a2
   have a3:pw (N-1)*524288<pw (N-1)*((aL (n*S))[N-1]'(by omega)+1):=by rw[Int.mul_add];omega
   have:=Int.lt_of_mul_lt_mul_left a3 (by omega)
   omega
  have hlen:N+1≤u.length:=by
   have:n*S≤m*S:=Nat.mul_le_mul_right _ (by omega)
   have:=eM this
   omega
  obtain⟨M,hM⟩:∃M,u.length=M+N:=⟨u.length-N,by omega⟩
  have e1:IntKind.i64.wrap ((u.length:Int)-((aL (n*S)).length:Int))=(M:Int):=by rw[hVN,hM,iJ (by omega)];omega
  rw[e1,Xn (by omega),Option.bind_some,List.length_replicate,iJ (x:=(M:Int)-1) (by omega)]
  have hdr:dv (u.drop M)<dv (aL (n*S)):=by
   rw[bP]
   have a1:=hZ u (i:=M) (by omega)
   have a2:=cy (hu2.take M)
   have a3:pw M*dv (u.drop M)<pw M*pw (N-1):=by
    rw[← Cx,show M+(N-1)=u.length-1 by omega]
    omega
   have:=Int.lt_of_mul_lt_mul_left a3 (by have:=lx M;omega)
   omega
  obtain⟨⟨U,Q⟩,r1,r2,r3,r4,r5,r6,r7⟩:=RF (cL (n*S)) hVN hN2 hV1 hu2 hM (by omega) hdr
  simp only at r2 r3 r4 r5 r6 r7
  rw[r1,Option.bind_some]
  simp only
  rw[bP,hu3]at r6
  rw[bP]at r7
  have hU0:=cy r3
  have hQ0:=cy r5
  have hS:0<S:=by omega
  have hnS:0<n*S:=Nat.mul_pos (by omega) hS
  obtain⟨U',hU'⟩:∃k:Nat,dv U=k:=⟨(dv U).toNat,by omega⟩
  obtain⟨Q',hQ'⟩:∃k:Nat,dv Q=k:=⟨(dv Q).toNat,by omega⟩
  rw[hU',hQ']at r6
  rw[hU']at r7
  have hnat:U'+n*S*Q'=m*S:=by
   have:((U'+n*S*Q':Nat):Int)=((m*S:Nat):Int):=by rw[Int.natCast_add,Int.natCast_mul (n*S) Q'];exact r6
   omega
  have hUlt:U'<n*S:=by omega
  have hQe:Q'=m / n:=by
   have:m*S / (n*S)=Q':=by
    rw[← hnat,Nat.add_mul_div_left _ _ hnS,Nat.div_eq_of_lt hUlt,Nat.zero_add]
   rw[← this,Nat.mul_div_mul_right _ _ hS]
  have hUe:U'=(m % n)*S:=by
   have:m*S % (n*S)=U':=by rw[← hnat,Nat.add_mul_mod_self_left,Nat.mod_eq_of_lt hUlt]
   rw[← this,Nat.mul_mod_mul_right]
  rw[AA (n:=U') (by unfold Fit;omega) r3 hU',Option.bind_some]
  have hUlen:(aL U').length≤N:=fM (by omega)
  rw[Lc (cL U') ⟨by omega,by omega⟩ (by unfold Fit;omega),Option.bind_some,AA (n:=Q') (by unfold Fit;omega) r5 hQ',Option.bind_some,bP,hQe,hUe]
  have:((((m % n)*S:Nat):Int) / (S:Int)).toNat=m % n:=by
   rw[Int.natCast_mul,Int.mul_ediv_cancel _ (by omega)];rfl
  rw[this]
def gm (x:Int):az:=az.mk x.sign (aL x.natAbs)
def Ln (x:Int):Nat:=(aL x.natAbs).length
def qh:Nat:=4398046511104
def jo:Nat:=17592186043904
theorem H0 {n:Nat} (h:n≤qh):n≤jo:=Nat.le_trans h (by decide)
theorem Cl:gm 0=az.mk 0 []:=by unfold gm;rw[show (0:Int).natAbs=0 from rfl,cH];rfl
theorem Hk {x y:Int} (h:gm x=gm y):x=y:=by
 unfold gm at h
 simp only[az.mk.injEq]at h
 have:=RE h.2
 have h1:=Int.sign_mul_natAbs x
 have h2:=Int.sign_mul_natAbs y
 rw[← h1,← h2,h.1,this]
theorem QV {x:Int} {k:Nat} (h:(x.natAbs:Int)<pw k):Ln x≤k:=fM h
theorem VJ (x:Int):(x.natAbs:Int)<pw (Ln x):=eS _
theorem xQ (x y:Int):Ln (x*y)≤Ln x+Ln y:=by
 apply QV
 have h1:=VJ x
 have h2:=VJ y
 rw[Int.natAbs_mul,Int.natCast_mul,Cx]
 have hx:=lx (Ln x)
 calc (x.natAbs:Int)*y.natAbs≤pw (Ln x)*y.natAbs:=Int.mul_le_mul_of_nonneg_right (by omega) (by omega)
  _<pw (Ln x)*pw (Ln y):=Int.mul_lt_mul_of_pos_left h2 hx
theorem H2 {x:Int} (h:x.natAbs<1048576):Ln x≤1:=QV (by rw[jI,nn];omega)
instance (l:List Int):Decidable (Dg l):=by unfold Dg;infer_instance
def okB (b:az):Bool:=decide (Dg b.aa)&&(match b.aa.getLast? with|none=>b.aj==0|some d=>(b.aj==1||b.aj == -1)&&d != 0)
theorem qR {b:az} : okB b=true↔∃x,b=gm x:=by
 obtain⟨s,l⟩:=b
 unfold okB
 simp only[Bool.and_eq_true,decide_eq_true_eq]
 constructor
 ·rintro⟨hd,h⟩
  cases hl:l.getLast? with
  | none =>
   rw[hl]at h
   have:l=[]:=List.getLast?_eq_none_iff.1 hl
   subst this
   exact⟨0,by rw[Cl];simpa using h⟩
  | some d =>
   rw[hl]at h
   simp only[Bool.and_eq_true,Bool.or_eq_true,beq_iff_eq,bne_iff_ne]at h
   have hne:l≠[]:=by intro h0;subst h0;simp at hl
   have hlast:∀h:l≠[],l.getLast h≠0:=by
    intro h'
    rw[List.getLast?_eq_some_getLast h']at hl
    cases hl
    exact h.2
   have e:=Ap hd hlast
   have h0:(dv l).toNat≠0:=by
    intro h0
    rw[h0,cH]at e
    exact hne e.symm
   have hn:=cy hd
   refine⟨s*dv l,?_⟩
   unfold gm
   rcases h.1 with rfl|rfl
   ·rw[Int.one_mul,Int.sign_eq_one_of_pos (by omega)]
    have:(dv l).natAbs=(dv l).toNat:=by omega
    rw[this,e]
   ·rw[Int.neg_mul,Int.one_mul,Int.sign_neg,Int.sign_eq_one_of_pos (by omega)]
    have:(-dv l).natAbs=(dv l).toNat:=by omega
    rw[this,e]
 ·rintro⟨x,hx⟩
  unfold gm at hx
  simp only[az.mk.injEq]at hx
  obtain⟨rfl,rfl⟩:=hx
  refine⟨cL _,?_⟩
  by_cases h0:x=0
  ·subst h0;simp[cH]
  ·have hne:aL x.natAbs≠[]:=fun h=>h0 (by have:=pF.1 h;omega)
   rw[List.getLast?_eq_some_getLast hne]
   have h1:=PE _ hne
   simp only[Bool.and_eq_true,Bool.or_eq_true,beq_iff_eq,bne_iff_ne]
   refine⟨?_,h1⟩
   rcases Int.lt_trichotomy x 0 with h|h|h
   ·right;exact Int.sign_eq_neg_one_of_neg h
   ·exact absurd h h0
   ·left;exact Int.sign_eq_one_of_pos h
theorem Hm (x:Int):okB (gm x)=true:=qR.2 ⟨x,rfl⟩
theorem CM {b:az} (hf:Fit b.aa):er b=some (okB b):=by
 obtain⟨s,l⟩:=b
 simp only[Fit]at hf
 have key:∃r,a8 (mM ⟨s,l⟩) 0=some r∧(match r with | .inl _=>Dg l | .inr x=>x=false∧¬Dg l):=by
  refine eF (I:=fun i s=>s=(i:Int)∧Dg (l.take i)) l.length _ ⟨rfl,by simpa using Dg.nil⟩ (l8 hf) ?_
  rintro i s hi ⟨rfl,hd⟩
  simp only[mM]
  by_cases hlt:i<l.length
  ·rw[if_pos (by simpa using hlt),cv hlt,Option.bind_some]
   by_cases h1:l[i]<0
   ·right
    exact⟨.inr false,by rw[if_pos (by simpa using h1)],rfl,fun hh=>by have:=hh.get hlt;omega⟩
   ·by_cases h2:l[i]>1048575
    ·right
     exact⟨.inr false,by rw[if_neg (by simpa using h1),if_pos (by simpa using h2)],rfl,fun hh=>by have:=hh.get hlt;omega⟩
    ·left
     refine⟨hlt,_,by rw[if_neg (by simpa using h1),if_neg (by simpa using h2)],by rw[iJ (by omega)];omega,?_⟩
     have e:l.take (i+1)=l.take i++[l[i]]:=by rw[List.take_add_one];simp[hlt]
     rw[e]
     exact hd.append (Dg.mk (by omega) Dg.nil)
  ·right
   have:i=l.length:=by omega
   subst this
   rw[List.take_length]at hd
   exact⟨.inl (),by rw[if_neg (by simp)],hd⟩
 obtain⟨r,h1,h2⟩:=key
 unfold er okB
 rw[h1,Option.bind_some]
 cases r with
 | inr x =>
  obtain⟨rfl,h⟩:=h2
  simp[h]
 | inl u =>
  simp only at h2 ⊢
  simp only[h2,decide_true,Bool.true_and]
  by_cases h0:l=[]
  ·subst h0;simp
  ·have hp:0<l.length:=List.length_pos_iff.2 h0
   have e:IntKind.i64.wrap ((l.length:Int)-1)=((l.length-1:Nat):Int):=by rw[iJ (by omega)];omega
   rw[if_neg (by simpa using h0),e,cv (by omega),List.getLast?_eq_some_getLast h0,List.getLast_eq_getElem]
   simp only[Option.bind_some]
   by_cases hs:s=1
   ·subst hs;simp
   ·rw[if_neg (by simpa using hs)]
    by_cases hs':s = -1
    ·subst hs';simp
    ·rw[if_neg (by simpa using hs')]
     simp[hs,hs']
theorem og {x:Int} (h:Ln x≤17592186044416):er (gm x)=some true:=by
 rw[CM (show Fit (gm x).aa from h),Hm]
theorem yD {s:Int} {l:List Int} (x:Int) (hf:Fit l) (hd:Dg l) (hv:dv l=x.natAbs) (hs:x≠0→s=x.sign):fv s l=some (gm x):=by
 unfold fv
 rw[AA hf hd hv,Option.bind_some]
 by_cases h0:x=0
 ·subst h0
  rw[show (0:Int).natAbs=0 from rfl,cH,Cl];rfl
 ·have:aL x.natAbs≠[]:=fun h=>h0 (by have:=pF.1 h;omega)
  rw[if_neg (by simpa using this),hs h0];rfl
theorem wg (b:az):fJ true b=some (b,0):=rfl
theorem uB (x:Int):x.sign = -1∨x.sign=0∨x.sign=1:=by
 rcases Int.lt_trichotomy x 0 with h|h|h
 ·left;exact Int.sign_eq_neg_one_of_neg h
 ·subst h;right;left;rfl
 ·right;right;exact Int.sign_eq_one_of_pos h
theorem gB (x:Int):x.sign=1∧x=x.natAbs∧0<x∨x.sign = -1∧x = -x.natAbs∧x<0∨x.sign=0∧x=0:=by
 rcases Int.lt_trichotomy x 0 with h|h|h
 ·right;left;exact⟨Int.sign_eq_neg_one_of_neg h,by omega,h⟩
 ·subst h;right;right;exact⟨rfl,rfl⟩
 ·left;exact⟨Int.sign_eq_one_of_pos h,by omega,h⟩
theorem Ge {x:Int} {s:Int} {n:Nat} (hn:n=x.natAbs) (hs:x≠0→s=x.sign) (hL:n≠0→(aL n).length≤17592186044416):fv s (aL n)=some (gm x):=by
 subst hn
 refine yD x ?_ (cL _) (bP _) hs
 unfold Fit
 by_cases h:x.natAbs=0
 ·rw[h,cH];simp
 ·exact hL h
theorem VX {x y:Int} (hx:Ln x≤qh) (hy:Ln y≤qh):qo (gm x) (gm y)=some (gm (x*y),0):=by
 have hL:qh=4398046511104:=rfl
 have hLa:=xQ x y
 unfold qo
 rw[og (by omega),Option.bind_some]
 simp only[Bool.not_true,Bool.false_eq_true,if_false]
 rw[og (by omega),Option.bind_some,Option.bind_some]
 simp only[Bool.not_true,Bool.false_eq_true,if_false]
 have hxd:(gm x).aa=aL x.natAbs:=rfl
 have hyd:(gm y).aa=aL y.natAbs:=rfl
 have hxs:(gm x).aj=x.sign:=rfl
 have hys:(gm y).aj=y.sign:=rfl
 rw[hxd,hyd,hxs,hys]
 have fx:(aL x.natAbs).length≤4398046511104:=by show Ln x≤_;omega
 have fy:(aL y.natAbs).length≤4398046511104:=by show Ln y≤_;omega
 have hw:IntKind.i64.wrap (x.sign*y.sign)=(x*y).sign:=by
  rw[Int.sign_mul]
  apply iJ
  rcases uB x with h|h|h<;>rcases uB y with g|g|g<;>rw[h,g]<;>decide
 rw[hw,mul_eq (cL _) (cL _) (by omega),Option.bind_some,bP,bP]
 have hn:((x.natAbs:Int)*y.natAbs).toNat=(x*y).natAbs:=by rw[Int.natAbs_mul,← Int.natCast_mul];rfl
 rw[hn,Ge (x:=x*y) rfl (fun _=>rfl) (fun _=>by show Ln (x*y)≤_;omega),Option.bind_some,wg,Option.bind_some]
theorem Lo {x y:Int} (hx:Ln x≤qh) (hy:Ln y≤qh):fX (gm x) (gm y)=some (gm (x*y)):=by
 unfold fX
 rw[VX hx hy];rfl
def lg (n:Nat):Nat:=if n=0 then 0 else n.log2+1
theorem VF {r x:Nat} (h:2*r<x):lg r<lg x:=by
 unfold lg
 rw[if_neg (show x≠0 by omega)]
 by_cases h0:r=0
 ·rw[if_pos h0];omega
 ·rw[if_neg h0]
  have h1:=Nat.log2_self_le h0
  have h2:=@Nat.lt_log2_self x
  have:2 ^ (r.log2+1)<2 ^ (x.log2+1):=by rw[Nat.pow_succ];omega
  have:=(Nat.pow_lt_pow_iff_right (by decide:1<2)).1 this
  omega
theorem OB {n k:Nat} (h:(n:Int)<pw k):lg n≤20*k:=by
 unfold lg
 by_cases h0:n=0
 ·rw[if_pos h0];omega
 ·rw[if_neg h0]
  have:n<2 ^ (20*k):=by
   have:pw k=((2 ^ (20*k):Nat):Int):=by
    unfold pw
    rw[Nat.pow_mul,Int.natCast_pow];rfl
   omega
  have:=(Nat.log2_lt h0).2 this
  omega
theorem R5 {a b:Nat} (ha:(aL a).length≤jo) (hb:(aL b).length≤jo):a8 nL (aL a,aL b)=some (aL (Nat.gcd a b)):=by
 have hL:jo=17592186043904:=rfl
 have key:∃r,a8 nL (aL a,aL b)=some r∧r=aL (Nat.gcd a b):=by
  have la:=OB (eS a)
  have lb:=OB (eS b)
  let val:List Int→Nat:=fun l=>(dv l).toNat
  have hval:∀n,val (aL n)=n:=fun n=>by show (dv (aL n)).toNat=n;rw[bP];rfl
  refine eV (I:=fun (s:List Int×List Int)=>∃x y,s=(aL x,aL y)∧Nat.gcd x y=Nat.gcd a b∧(aL x).length≤jo∧(aL y).length≤jo)
   (μ:=fun (s:List Int×List Int)=>lg (val s.1)+lg (val s.2)+(if val s.1<val s.2 then 1 else 0)) _ ⟨a,b,rfl,rfl,ha,hb⟩ (by simp only[hval];unfold FU;split<;>omega) ?_
  rintro _ ⟨x,y,rfl,hg,hx,hy⟩
  simp only[nL]
  by_cases h0:y=0
  ·right
   subst h0
   refine⟨_,by rw[cH,if_neg (by simp)],?_⟩
   rw[← hg,Nat.gcd_zero_right]
  ·left
   have hne:0<(aL y).length:=List.length_pos_iff.2 (fun h=>h0 (pF.1 h))
   rw[if_pos (by simpa using hne),div_eq h0 (by omega) (by omega),Option.bind_some]
   have hlt:=Nat.mod_lt x (Nat.pos_of_ne_zero h0)
   refine⟨_,rfl,⟨y,x % y,rfl,?_,hy,?_⟩,?_⟩
   ·rw[← hg,Nat.gcd_comm y,← Nat.gcd_rec,Nat.gcd_comm]
   ·have:=eM (Nat.mod_le x y);omega
   ·simp only[hval]
    rw[if_neg (by omega)]
    by_cases hxy:x<y
    ·rw[if_pos hxy,Nat.mod_eq_of_lt hxy];omega
    ·rw[if_neg hxy]
     have:lg (x % y)<lg x:=by
      apply VF
      have h1:=Nat.div_add_mod x y
      have h2:1≤x / y:=(Nat.one_le_div_iff (by omega)).2 (by omega)
      have h3:y*1≤y*(x / y):=Nat.mul_le_mul_left _ h2
      omega
     omega
 obtain⟨r,h1,rfl⟩:=key
 exact h1
theorem VV {x y:Int} (hx:Ln x≤jo) (hy:Ln y≤jo):ql (gm x) (gm y)=some (gm (Int.gcd x y),0):=by
 have hL:jo=17592186043904:=rfl
 unfold ql
 rw[og (by omega),Option.bind_some]
 simp only[Bool.not_true,Bool.false_eq_true,if_false]
 rw[og (by omega),Option.bind_some,Option.bind_some]
 simp only[Bool.not_true,Bool.false_eq_true,if_false]
 have hxd:(gm x).aa=aL x.natAbs:=rfl
 have hyd:(gm y).aa=aL y.natAbs:=rfl
 rw[hxd,hyd]
 have fx:(aL x.natAbs).length≤17592186043904:=by show Ln x≤_;omega
 have fy:(aL y.natAbs).length≤17592186043904:=by show Ln y≤_;omega
 have fg:(aL (Nat.gcd x.natAbs y.natAbs)).length≤17592186043904:=by
  by_cases h:y.natAbs=0
  ·rw[h,Nat.gcd_zero_right];exact fx
  ·have:=eM (Nat.gcd_le_right x.natAbs (Nat.pos_of_ne_zero h));omega
 rw[wk (by unfold Fit;omega),Option.bind_some,R5 (by omega) (by omega),Option.bind_some,wk (by unfold Fit;omega),Option.bind_some]
 have hgn:Nat.gcd x.natAbs y.natAbs=((Int.gcd x y:Nat):Int).natAbs:=rfl
 rw[Ge (x:=(Int.gcd x y:Int)) hgn ?_ (fun _=>by omega),Option.bind_some,wg,Option.bind_some]
 intro h
 rw[Int.sign_eq_one_of_pos (by omega)]
theorem LJ {x y:Int} (hx:Ln x≤qh) (hy:Ln y≤qh):iO (gm x) (gm y)=some (ld x y):=by
 have hL:qh=4398046511104:=rfl
 unfold iO
 rw[og (by omega),Option.bind_some]
 simp only[Bool.not_true,Bool.false_eq_true,if_false]
 rw[og (by omega),Option.bind_some,Option.bind_some]
 simp only[Bool.not_true,Bool.false_eq_true,if_false]
 have hxd:(gm x).aa=aL x.natAbs:=rfl
 have hyd:(gm y).aa=aL y.natAbs:=rfl
 have hxs:(gm x).aj=x.sign:=rfl
 have hys:(gm y).aj=y.sign:=rfl
 rw[hxd,hyd,hxs,hys]
 have fx:(aL x.natAbs).length≤4398046511104:=by show Ln x≤_;omega
 have fy:(aL y.natAbs).length≤4398046511104:=by show Ln y≤_;omega
 by_cases h:x.sign=y.sign
 ·rw[if_neg (by simpa using h),Bf (by unfold Fit;omega) (by unfold Fit;omega),Option.bind_some]
  have hc:∀s:Int,s = -1∨s=0∨s=1→∀c:Int,c = -1∨c=0∨c=1→IntKind.i64.wrap (s*c)=s*c:=by
   rintro s (rfl|rfl|rfl) c (rfl|rfl|rfl)<;>exact iJ (by decide)
  have hcm:∀a b:Int,ld a b = -1∨ld a b=0∨ld a b=1:=by
   intro a b;unfold ld;split
   ·simp
   ·split<;>simp
  rw[hc _ (uB x) _ (hcm _ _)]
  congr 1
  unfold ld
  rcases gB x with⟨a,b,c⟩|⟨a,b,c⟩|⟨a,b⟩<;>rcases gB y with⟨a',b',c'⟩|⟨a',b',c'⟩|⟨a',b'⟩<;>(try (rw[a,a']at h;exact absurd h (by decide)))<;>rw[a]<;>split<;>(try split)<;>(try split)<;>(try split)<;>omega
 ·rw[if_pos (by simpa using h),LV,Option.bind_some]
  congr 1
  unfold ld
  rcases gB x with⟨a,b,c⟩|⟨a,b,c⟩|⟨a,b⟩<;>rcases gB y with⟨a',b',c'⟩|⟨a',b',c'⟩|⟨a',b'⟩<;>(try (exact absurd (a.trans a'.symm) h))<;>rw[a,a']<;>split<;>(try split)<;>(try split)<;>(try split)<;>omega
theorem Pw (x:Int):IntKind.u64.wrap x=x % 18446744073709551616:=by
 unfold IntKind.wrap
 simp only[IntKind.bits,IntKind.signed,Bool.false_and,Bool.false_eq_true,if_false]
 rfl
theorem wu {x:Int} (h:0≤x∧x<18446744073709551616):IntKind.u64.wrap x=x:=by rw[Pw];omega
theorem Pz {x:Int} (h:0≤x∧x<18446744073709551616):nN .and .u64 x 1048575=x % 1048576:=by
 unfold nN
 simp only
 have e1:(BitVec.ofInt IntKind.u64.bits x &&& BitVec.ofInt IntKind.u64.bits 1048575).toNat=((x % 18446744073709551616).toNat) % 1048576:=by
  rw[BitVec.toNat_and,BitVec.toNat_ofInt,BitVec.toNat_ofInt]
  have e:((1048575:Int) % ((2 ^ IntKind.u64.bits:Nat):Int)).toNat=2 ^ 20-1:=by decide
  rw[e,Nat.and_two_pow_sub_one_eq_mod]
  rfl
 rw[e1,wu (by omega)]
 omega
theorem Wu (x:Int):yC .u64 x 20=some (x / 1048576):=by
 unfold yC
 rw[if_neg (by decide)]
 have e:(2:Int) ^ (min (Int.toNat 20) IntKind.u64.bits)=1048576:=by decide
 rw[e,Int.fdiv_eq_ediv_of_nonneg _ (by decide)]
theorem YZ:pw 4=1208925819614629174706176:=by decide
theorem UK {n:Nat} (hn:n<18446744073709551616):∃l,a8 tM ((n:Int),[])=some l∧Dg l∧dv l=n∧l.length≤5:=by
 refine eV (I:=fun (s:Int×List Int)=>0≤s.1∧Dg s.2∧dv s.2+pw s.2.length*s.1=n∧s.2.length≤5∧(s.1=0∨s.2.length<5)) (μ:=fun (s:Int×List Int)=>s.1.toNat) _ ⟨by simp,Dg.nil,by simp[dv,nn],by simp,by simp⟩ (by simp only[Int.toNat_natCast];unfold FU;omega) ?_
 rintro⟨u,l⟩ ⟨h1,hd,h2,h3,h5⟩
 simp only at h1 hd h2 h3 h5
 have hp:=lx l.length
 have hdl:=cy hd
 have hu:u≤n:=by
  have:1*u≤pw l.length*u:=Int.mul_le_mul_of_nonneg_right (by omega) h1
  omega
 simp only[tM]
 by_cases h0:u>0
 ·left
  have hl5:l.length<5:=by omega
  have hl4:l.length<4:=by
   rcases Nat.lt_or_ge l.length 4 with h|h
   ·exact h
   ·have h4:l.length=4:=by omega
    rw[h4,YZ]at h2
    omega
  have hw:IntKind.i64.wrap (u % 1048576)=u % 1048576:=iJ (by omega)
  rw[if_pos (by simpa using h0),Pz ⟨h1,by omega⟩,hw,Dh (by simp;omega),Option.bind_some,Wu,Option.bind_some]
  refine⟨_,rfl,⟨by simp only;omega,hd.append (Dg.mk (by omega) Dg.nil),?_,by simp;omega,by right;simp;omega⟩,by simp only;omega⟩
  simp only[fk,dv,List.length_append,List.length_cons,List.length_nil,Int.mul_zero,Int.add_zero,Nat.zero_add]
  have:=yx l.length u
  omega
 ·right
  have:u=0:=by omega
  subst this
  refine⟨l,by rw[if_neg (by simp)],hd,?_,h3⟩
  rw[Int.mul_zero]at h2
  omega
theorem Vf {x:Int} (h : -9223372036854775808≤x∧x<9223372036854775808):sC x=some (gm x):=by
 have hT:(if decide (x<0)=true then some ((-1:Int),IntKind.u64.wrap (0-(IntKind.u64.wrap x))) else some (1,IntKind.u64.wrap x))=some (if x<0 then -1 else 1,((x.natAbs:Nat):Int)):=by
  by_cases hx:x<0
  ·rw[if_pos (by simpa using hx),if_pos hx,Pw,Pw]
   congr 2
   omega
  ·rw[if_neg (by simpa using hx),if_neg hx,Pw]
   congr 2
   omega
 obtain⟨l,h1,h2,h3,h4⟩:=UK (n:=x.natAbs) (by omega)
 unfold sC
 rw[hT,Option.bind_some]
 simp only
 rw[h1,Option.bind_some,pM]
 refine yD x (by unfold Fit;omega) h2 h3 (fun h0 =>?_)
 split
 ·rw[Int.sign_eq_neg_one_of_neg (by omega)]
 ·rw[Int.sign_eq_one_of_pos (by omega)]
theorem YM {d:Int} {i:Nat} (hi:i≤3) (hd:0≤d∧d<1048576) (h8:i=3→d≤8):D6 .u64 (IntKind.u64.wrap d) (IntKind.i64.wrap (20*(i:Int)))=some (pw i*d):=by
 rw[wu (by omega),iJ (by omega)]
 unfold D6
 rw[if_neg (by omega)]
 have e:(2:Int) ^ (min (20*(i:Int)).toNat IntKind.u64.bits)=pw i:=by
  have:∀i:Nat,i≤3→(2:Int) ^ (min (20*(i:Int)).toNat IntKind.u64.bits)=pw i:=by decide
  exact this i hi
 rw[e,wu,Int.mul_comm]
 rcases (show i=0∨i=1∨i=2∨i=3 by omega) with rfl|rfl|rfl|rfl
 ·rw[show pw 0=1 by decide];omega
 ·rw[show pw 1=1048576 by decide];omega
 ·rw[show pw 2=1099511627776 by decide];omega
 ·rw[show pw 3=1152921504606846976 by decide];have:=h8 rfl;omega
theorem Xw {u d:Int} {i:Nat} (hi:i≤3) (hu:0≤u∧u<pw i) (hd:0≤d∧pw i*d<9223372036854775809):nN .or .u64 u (pw i*d)=u+pw i*d:=by
 have hp:=lx i
 have hpd:0≤pw i*d:=Int.mul_nonneg (by omega) hd.1
 have hpw:pw i=((2 ^ (20*i):Nat):Int):=by unfold pw;rw[Nat.pow_mul,Int.natCast_pow];rfl
 have hp3:pw i≤1152921504606846976:=by
  have:=um hi
  rwa [show pw 3=1152921504606846976 by decide]at this
 unfold nN
 simp only
 have e1:(BitVec.ofInt IntKind.u64.bits u ||| BitVec.ofInt IntKind.u64.bits (pw i*d)).toNat=(u+pw i*d).toNat:=by
  rw[BitVec.toNat_or,BitVec.toNat_ofInt,BitVec.toNat_ofInt]
  have e:((2 ^ IntKind.u64.bits:Nat):Int)=18446744073709551616:=by decide
  rw[e]
  have e2:(u % 18446744073709551616).toNat=u.toNat:=by omega
  have e3:((pw i*d) % 18446744073709551616).toNat=d.toNat <<< (20*i):=by
   rw[Nat.shiftLeft_eq,Int.emod_eq_of_lt hpd (by omega),hpw]
   have:d=(d.toNat:Int):=by omega
   rw[this,← Int.natCast_mul,Int.toNat_natCast,Int.toNat_natCast,Nat.mul_comm]
  rw[e2,e3,Nat.or_comm,← Nat.shiftLeft_add_eq_or_of_lt (by omega),Nat.shiftLeft_eq]
  have:pw i*d=((d.toNat*2 ^ (20*i):Nat):Int):=by
   rw[hpw,Int.natCast_mul,Int.mul_comm]
   congr 1
   omega
  omega
 rw[e1,wu (by omega)]
 omega
theorem Wo {g:Nat} (h:(aL g).length≤jo):nZ (gm g)=some (decide (g=1)):=by
 have hL:jo=17592186043904:=rfl
 have hgd:(gm (g:Int)).aa=aL g:=rfl
 have hLn:Ln (g:Int)=(aL g).length:=rfl
 unfold nZ
 have hsmall:g=1→(aL g).length≤4:=by
  rintro rfl
  exact Nat.le_trans (fM (k:=1) (by decide)) (by decide)
 suffices hI:∃r,qm (gm g)=some r∧((if r.2=true then some (r.1==1) else some false)=some (decide (g=1))) by
  obtain⟨r,h1,h2⟩:=hI
  rw[h1,Option.bind_some,h2]
 unfold qm
 rw[og (by rw[hLn];omega),Option.bind_some]
 simp only[Bool.not_true,Bool.false_eq_true,if_false,Option.bind_some,hgd]
 by_cases h4:(aL g).length>4
 ·rw[if_pos (by simp;omega)]
  refine⟨_,rfl,?_⟩
  have:g≠1:=fun hh=>by have:=hsmall hh;omega
  simp[this]
 rw[if_neg (by simp;omega)]
 have key:∃r,a8 (qn (gm g)) (0,0)=some r∧(match r with | .inl u=>u=(g:Int) | .inr x=>x=(0,false)∧g≠1):=by
  refine eF (I:=fun i s=>s.2=(i:Int)∧s.1=dv ((aL g).take i)) (aL g).length _ ⟨rfl,rfl⟩ (l8 (by omega)) ?_
  rintro i ⟨u,s⟩ hi ⟨h1,h2⟩
  simp only at h1 h2
  subst h1 h2
  simp only[qn,hgd]
  have hdg:=(cL g).take i
  have hu0:=cy hdg
  have hu1:=nP hdg
  rw[List.length_take,Nat.min_eq_left hi]at hu1
  by_cases hlt:i<(aL g).length
  ·have gd:=(cL g).get hlt
   rw[if_pos (by simpa using hlt),cv hlt,Option.bind_some]
   have hT:(if ((i:Int)==3)=true then some (decide ((aL g)[i]>8)) else some false)=some (decide (i=3∧(aL g)[i]>8)):=by
    by_cases h3:i=3
    ·subst h3;simp
    ·rw[if_neg (by simp;omega)];simp[h3]
   rw[hT,Option.bind_some]
   by_cases h8:i=3∧(aL g)[i]>8
   ·right
    rw[if_pos (by simpa using h8)]
    refine⟨.inr (0,false),rfl,rfl,?_⟩
    rintro rfl
    have:=fM (n:=1) (k:=1) (by decide)
    omega
   ·left
    rw[if_neg (by simpa using h8),YM (by omega) gd (by omega),Option.bind_some]
    have hb:pw i*(aL g)[i]<9223372036854775809:=by
     rcases (show i=0∨i=1∨i=2∨i=3 by omega) with h|h|h|h
     ·have:pw i=1:=by rw[h];decide
      rw[this];omega
     ·have:pw i=1048576:=by rw[h];decide
      rw[this];omega
     ·have:pw i=1099511627776:=by rw[h];decide
      rw[this];omega
     ·have:pw i=1152921504606846976:=by rw[h];decide
      rw[this];omega
    rw[Xw (by omega) ⟨hu0,hu1⟩ ⟨gd.1,hb⟩]
    exact⟨hlt,_,rfl,by rw[iJ (by omega)];omega,by rw[eY hlt]⟩
  ·right
   have:i=(aL g).length:=by omega
   subst this
   exact⟨.inl (dv ((aL g).take (aL g).length)),by rw[if_neg (by simp)],by rw[List.take_length,bP]⟩
 obtain⟨r,h1,h2⟩:=key
 rw[h1,Option.bind_some]
 cases r with
 | inr x=>obtain⟨rfl,h⟩:=h2;exact⟨_,rfl,by simp[h]⟩
 | inl u =>
  simp only at h2
  subst h2
  have hs:(gm (g:Int)).aj=(g:Int).sign:=rfl
  have hs0:¬(g:Int).sign<0:=by have:=gB (g:Int);omega
  simp only[hs]
  rw[if_neg (by simp),Option.bind_some,if_neg (by simp),if_pos (by simp)]
  by_cases hg:(g:Int)<9223372036854775808
  ·rw[if_pos (by simpa using hg)]
   refine⟨_,rfl,?_⟩
   simp only[if_true]
   rw[wrap64 (by omega) hg]
   congr 1
   by_cases h:g=1
   ·subst h;rfl
   ·have:¬((g:Int)=1):=by omega
    simp[h,this]
  ·rw[if_neg (by simpa using hg)]
   have:g≠1:=by omega
   exact⟨_,rfl,by simp[this]⟩
def Av (q:Rat):ba:=ba.mk (gm q.num) (gm q.den)
def LF (q:Rat):Nat:=max (Ln q.num) (Ln q.den)
theorem Aw {p q:Rat} (h:Av p=Av q):p=q:=by
 unfold Av at h
 simp only[ba.mk.injEq]at h
 have h1:=Hk h.1
 have h2:=Hk h.2
 exact Rat.ext h1 (by omega)
def okF (f:ba):Bool:=okB f.cz&&okB f.cw&&(f.cw.aj==1)&&decide (Nat.gcd (dv f.cz.aa).toNat (dv f.cw.aa).toNat=1)
theorem Hn {f:ba} : okF f=true↔∃q,f=Av q:=by
 obtain⟨p,q⟩:=f
 unfold okF
 simp only[Bool.and_eq_true,beq_iff_eq,decide_eq_true_eq]
 constructor
 ·rintro⟨⟨⟨h1,h2⟩,h3⟩,h4⟩
  obtain⟨x,rfl⟩:=qR.1 h1
  obtain⟨y,rfl⟩:=qR.1 h2
  have hy:0<y:=by
   have:y.sign=1:=h3
   rcases gB y with⟨a,b,c⟩|⟨a,b,c⟩|⟨a,b⟩<;>omega
  have h5:(dv (gm x).aa).toNat=x.natAbs:=by show (dv (aL _)).toNat=_;rw[bP];rfl
  have h6:(dv (gm y).aa).toNat=y.natAbs:=by show (dv (aL _)).toNat=_;rw[bP];rfl
  rw[h5,h6]at h4
  refine⟨⟨x,y.natAbs,by omega,h4⟩,?_⟩
  unfold Av
  simp only
  congr 2
  omega
 ·rintro⟨q,hq⟩
  unfold Av at hq
  simp only[ba.mk.injEq]at hq
  obtain⟨rfl,rfl⟩:=hq
  have hd:=q.den_pos
  refine⟨⟨⟨Hm _,Hm _⟩,Int.sign_eq_one_of_pos (by omega)⟩,?_⟩
  have h5:(dv (gm q.num).aa).toNat=q.num.natAbs:=by show (dv (aL _)).toNat=_;rw[bP];rfl
  have h6:(dv (gm (q.den:Int)).aa).toNat=q.den:=by show (dv (aL _)).toNat=_;rw[bP];rfl
  rw[h5,h6]
  exact q.reduced
theorem yo (q:Rat):okF (Av q)=true:=Hn.2 ⟨q,rfl⟩
def Px (f:ba):Prop:=f.cz.aa.length≤jo∧f.cw.aa.length≤jo
theorem Al {q:Rat} (h:LF q≤qh):Px (Av q):=by
 unfold LF at h
 exact⟨H0 (show Ln q.num≤_ by omega),H0 (show Ln q.den≤_ by omega)⟩
theorem sB {f:ba} (hf:Px f):eR f=some (okF f):=by
 have hL:jo=17592186043904:=rfl
 obtain⟨p,q⟩:=f
 simp only[Px]at hf
 unfold eR okF
 rw[CM (show Fit p.aa by unfold Fit;omega),Option.bind_some]
 by_cases h1:okB p=true
 ·simp only[h1,Bool.not_true,Bool.false_eq_true,if_false,Bool.true_and]
  rw[CM (show Fit q.aa by unfold Fit;omega),Option.bind_some]
  by_cases h2:okB q=true
  ·simp only[h2,Bool.not_true,Bool.false_eq_true,if_false,Bool.true_and,Option.bind_some]
   by_cases h3:q.aj=1
   ·rw[if_neg (by simp[h3])]
    obtain⟨x,rfl⟩:=qR.1 h1
    obtain⟨y,rfl⟩:=qR.1 h2
    rw[VV hf.1 hf.2,Option.bind_some]
    simp only[beq_self_eq_true,if_true]
    have h5:(dv (gm x).aa).toNat=x.natAbs:=by show (dv (aL _)).toNat=_;rw[bP];rfl
    have h6:(dv (gm y).aa).toNat=y.natAbs:=by show (dv (aL _)).toNat=_;rw[bP];rfl
    rw[Wo,Option.bind_some,h5,h6]
    ·rw[h3];rfl
    ·have hy:0<y.natAbs:=by
      have:y.sign=1:=h3
      rcases gB y with⟨a,b,c⟩|⟨a,b,c⟩|⟨a,b⟩<;>omega
     have:=eM (Nat.gcd_le_right x.natAbs hy)
     have h7:(aL y.natAbs).length≤jo:=hf.2
     show (aL (Nat.gcd x.natAbs y.natAbs)).length≤_
     omega
   ·rw[if_pos (by simpa using h3)]
    simp[h3]
  ·simp only[h2,Bool.not_false,if_true,Option.bind_some,Bool.false_and]
 ·simp only[h1,Bool.not_false,if_true,Option.bind_some,Bool.false_and]
theorem AO {q:Rat} (h:LF q≤qh):eR (Av q)=some true:=by rw[sB (Al h),yo]
theorem Gq (q:Rat):Ln q.num≤LF q:=by unfold LF;omega
theorem Gp (q:Rat):Ln q.den≤LF q:=by unfold LF;omega
theorem WT {n:Int} (h : -9223372036854775808≤n∧n<9223372036854775808):nY n=some (Av n):=by
 unfold nY
 rw[Vf h,Option.bind_some,Vf (by decide),Option.bind_some]
 unfold Av
 rw[Rat.num_intCast,Rat.den_intCast]
 rfl
def PB (a b:Rat):Int:=if a<b then -1 else if b<a then 1 else 0
theorem Ob (a b:Rat):ld (a.num*b.den) (b.num*a.den)=PB a b:=by
 unfold ld PB
 simp only[Rat.lt_iff]
theorem xA {a b:Rat} (h:LF a+LF b≤qh):eZ (Av a) (Av b)=some (PB a b):=by
 have n1:=Gq a
 have n2:=Gq b
 have d1:=Gp a
 have d2:=Gp b
 have m1:=xQ a.num b.den
 have m2:=xQ b.num a.den
 unfold eZ
 rw[AO (by omega),Option.bind_some]
 simp only[Bool.not_true,Bool.false_eq_true,if_false]
 rw[AO (by omega),Option.bind_some,Option.bind_some]
 simp only[Bool.not_true,Bool.false_eq_true,if_false]
 show (fX (gm a.num) (gm b.den)).bind _=_
 rw[Lo (by omega) (by omega),Option.bind_some]
 show (fX (gm b.num) (gm a.den)).bind _=_
 rw[Lo (by omega) (by omega),Option.bind_some,LJ (by omega) (by omega),Option.bind_some,Ob]
theorem Ps {l:List Int} (hl:Fit l) (hd:Dg l):fQ l=some (aL (dv l).toNat):=by
 have h:=xu hl hd
 obtain⟨r,h1,k,rfl,hk,_⟩:=Gi hl
 unfold eD at h
 unfold fQ
 have e:tF l=j6 l:=rfl
 rw[h1,Option.bind_some,Az hk,Option.bind_some]at h
 rw[e,h1,Option.bind_some,Az hk,Option.bind_some,Dh (by unfold Fit at hl;simp;omega),Option.bind_some]
 exact h
theorem C4 {l:List Int} {n:Nat} (hl:Fit l) (hd:Dg l) (hn:dv l=n):fQ l=some (aL n):=by
 rw[Ps hl hd,hn];rfl
theorem OE {s:Int} {l:List Int} (x:Int) (hf:Fit l) (hd:Dg l) (hv:dv l=x.natAbs) (hs:x≠0→s=x.sign):fC s l=some (gm x):=by
 have h:=yD x hf hd hv hs
 unfold fv at h
 rw[xu hf hd]at h
 unfold fC
 rw[Ps hf hd]
 exact h
theorem Cj {x:Int} {s:Int} {n:Nat} (hn:n=x.natAbs) (hs:x≠0→s=x.sign) (hL:n≠0→(aL n).length≤17592186044416):fC s (aL n)=some (gm x):=by
 subst hn
 refine OE x ?_ (cL _) (bP _) hs
 unfold Fit
 by_cases h:x.natAbs=0
 ·rw[h,cH];simp
 ·exact hL h
theorem KZ {s:Int} {l:List Int} (hf:Fit l):∃r,a8 (nt ⟨s,l⟩) 0=some r∧(match r with | .inl _=>Dg l | .inr x=>x=false∧¬Dg l):=by
 refine eF (I:=fun i s=>s=(i:Int)∧Dg (l.take i)) l.length _ ⟨rfl,by simpa using Dg.nil⟩ (l8 hf) ?_
 unfold Fit at hf
 rintro i s hi ⟨rfl,hd⟩
 simp only[nt]
 by_cases hlt:i<l.length
 ·rw[if_pos (by simpa using hlt),cv hlt,Option.bind_some]
  by_cases h1:l[i]<0
  ·right
   exact⟨.inr false,by rw[if_pos (by simpa using h1)],rfl,fun hh=>by have:=hh.get hlt;omega⟩
  ·by_cases h2:l[i]≥1048576
   ·right
    exact⟨.inr false,by rw[if_neg (by simpa using h1),if_pos (by simpa using h2)],rfl,fun hh=>by have:=hh.get hlt;omega⟩
   ·left
    refine⟨hlt,_,by rw[if_neg (by simpa using h1),if_neg (by simpa using h2)],by rw[iJ (by omega)];omega,?_⟩
    have e:l.take (i+1)=l.take i++[l[i]]:=by rw[List.take_add_one];simp[hlt]
    rw[e]
    exact hd.append (Dg.mk (by omega) Dg.nil)
 ·right
  have:i=l.length:=by omega
  subst this
  rw[List.take_length]at hd
  exact⟨.inl (),by rw[if_neg (by simp)],hd⟩
theorem M0 {b:az} (hf:Fit b.aa):dn b=some (okB b):=by
 obtain⟨s,l⟩:=b
 simp only[Fit]at hf
 obtain⟨r,h1,h2⟩:=KZ (s:=s) (l:=l) hf
 unfold dn okB
 rw[h1,Option.bind_some]
 cases r with
 | inr x =>
  obtain⟨rfl,h⟩:=h2
  simp[h]
 | inl u =>
  simp only at h2 ⊢
  simp only[h2,decide_true,Bool.true_and]
  by_cases h0:l=[]
  ·subst h0
   by_cases hs0:s=0
   ·subst hs0;simp
   ·have:(s==0)=false:=by simpa using hs0
    simp only[List.length_nil,List.getLast?_nil,this]
    split<;>(try split)<;>simp
  ·have hp:0<l.length:=List.length_pos_iff.2 h0
   have e:IntKind.i64.wrap ((l.length:Int)-1)=((l.length-1:Nat):Int):=by rw[iJ (by omega)];omega
   have hl0:((l.length:Int)==0)=false:=by simpa using h0
   rw[e,cv (by omega),List.getLast?_eq_some_getLast h0,List.getLast_eq_getElem,hl0]
   simp only[Option.bind_some,Bool.false_eq_true,if_false]
   by_cases hs:s < -1
   ·rw[if_pos (by simpa using hs)]
    have h1:(s==1)=false:=by simp;omega
    have h2:(s == -1)=false:=by simp;omega
    simp[h1,h2]
   ·rw[if_neg (by simpa using hs)]
    by_cases hs':s>1
    ·rw[if_pos (by simpa using hs')]
     have h1:(s==1)=false:=by simp;omega
     have h2:(s == -1)=false:=by simp;omega
     simp[h1,h2]
    ·rw[if_neg (by simpa using hs')]
     rcases (show s = -1∨s=0∨s=1 by omega) with rfl|rfl|rfl<;>simp
theorem nD {x:Int} (h:Ln x≤17592186044416):dn (gm x)=some true:=by
 rw[M0 (show Fit (gm x).aa from h),Hm]
theorem wv (l:List Int) (i:Nat):fH l (i:Int)=some (gd l i):=by
 unfold fH
 by_cases h:i<l.length
 ·rw[if_pos (by simpa using h),cv h,Option.bind_some,Ot h]
 ·rw[if_neg (by simpa using h),Jl (by omega)]
theorem Lp {a b l0:List Int} {i n:Nat} (ha:Dg a) (hb:Dg b) (hia:i<a.length) (h0:Dg l0) (hn:l0.length=n) (hi:i+b.length<n) (hf:n≤17592186044416) (hz:∀j (hj:j<l0.length),i+b.length≤j→l0[j]=0) :
  ∃l,a8 (ny a b (i:Int)) (0,0,l0)=some l∧l.length=n∧Dg l∧(∀j (hj:j<l.length),i+b.length<j→l[j]=0)∧dv l=dv l0+pw i*(a[i]*dv b):=by
 have hx:=ha.get hia
 refine eF (I:=fun k s=>s.2.1=(k:Int)∧s.2.2.length=n∧Dg s.2.2∧(0≤s.1∧s.1<1048576)∧(∀j (hj:j<s.2.2.length),i+b.length≤j→i+k≤j→s.2.2[j]=0)∧(k=b.length+1→s.1=0)∧dv s.2.2+pw (i+k)*s.1=dv l0+pw i*(a[i]*dv (b.take k)))
  (b.length+1) _ ⟨rfl,hn,h0,by simp,fun j hj h _=>hz j hj h,by omega,by simp[dv]⟩ (l8 (by omega)) ?_
 rintro k ⟨c,s,l⟩ hk ⟨h1,hl,hd,hc,hz,hend,he⟩
 simp only at h1 hl hd hc hz hend he
 subst h1
 simp only[ny]
 have hT:(if decide ((k:Int)<(b.length:Int))=true then some true else some (decide (c>0)))=some (decide (k<b.length∨c>0)):=by
  by_cases h:k<b.length
  ·rw[if_pos (by simpa using h)];simp[h]
  ·rw[if_neg (by simpa using h)];simp[h]
 rw[hT,Option.bind_some]
 by_cases hgo:k<b.length∨c>0
 ·left
  have hkb:k≤b.length:=by
   rcases hgo with h|h
   ·omega
   ·rcases Nat.lt_or_ge b.length k with h'|h'
    ·have:=hend (by omega);omega
    ·exact h'
  have hik:i+k<l.length:=by omega
  have ei:IntKind.i64.wrap ((i:Int)+(k:Int))=((i+k:Nat):Int):=by rw[iJ (by omega)];omega
  have gb:=Oq hb k
  have gl:=hd.get hik
  have hm0:0≤a[i]*gd b k:=Int.mul_nonneg hx.1 gb.1
  have hm1:a[i]*gd b k≤1048575*1048575:=Int.mul_le_mul (by omega) (by omega) gb.1 (by omega)
  rw[if_pos (by simpa using hgo),ei,cv hik,Option.bind_some,cv hia,Option.bind_some,wv,Option.bind_some,iJ (x:=a[i]*gd b k) (by omega),iJ (x:=l[i+k]+a[i]*gd b k) (by omega),iJ (x:=l[i+k]+a[i]*gd b k+c) (by omega),Wm (by omega) (by omega),Option.bind_some,Us (by omega) (by omega) (by omega),Option.bind_some]
  have e1:IntKind.i64.wrap ((k:Int)+1)=((k+1:Nat):Int):=by rw[iJ (by omega)];omega
  refine⟨by omega,_,rfl,e1,by simpa using hl,hd.set _ (by omega),by simp only;omega,fun j hj hij hij2 =>?_,fun hk1 =>?_,?_⟩
  ·simp only[Int.toNat_natCast]at hj ⊢
   rw[List.getElem_set_ne (by omega)]
   exact hz j (by simpa using hj) hij (by omega)
  ·have hkl:k=b.length:=by omega
   simp only
   rw[Jl (by omega),Int.mul_zero,hz _ hik (by omega) (Nat.le_refl _)]
   omega
  ·simp only[Int.toNat_natCast]
   rw[xX hik,wS]
   have hp:=yx (i+k) (l[i+k]+a[i]*gd b k+c)
   rw[Int.mul_add (pw (i+k)),Int.mul_add (pw (i+k))]at hp
   have e2:pw i*(a[i]*(dv (b.take k)+pw k*gd b k))=pw i*(a[i]*dv (b.take k))+pw (i+k)*(a[i]*gd b k):=by
    rw[Int.mul_add,Int.mul_add,Cx]
    congr 1
    rw[Int.mul_left_comm a[i],← Int.mul_assoc]
   rw[e2,Int.mul_sub,show i+(k+1)=i+k+1 by omega]
   omega
 ·right
  have hkb:b.length≤k:=by omega
  have hc0:c=0:=by omega
  subst hc0
  refine⟨l,by rw[if_neg (by simpa using hgo)],hl,hd,fun j hj h=>hz j hj (by omega) (by omega),?_⟩
  rw[GP hkb,Int.mul_zero]at he
  omega
theorem Nk {a b:List Int} (ha:Dg a) (hb:Dg b) (hf:a.length+b.length≤17592186044416):jg a b=some (aL (dv a*dv b).toNat):=by
 have key:∃l,a8 (nx a b) (0,List.replicate (a.length+b.length) 0)=some l∧l.length=a.length+b.length∧Dg l∧dv l=dv a*dv b:=by
  refine eF (I:=fun i s=>s.1=(i:Int)∧s.2.length=a.length+b.length∧Dg s.2∧(∀j (hj:j<s.2.length),i+b.length≤j→s.2[j]=0)∧dv s.2=dv (a.take i)*dv b)
   a.length _ ⟨rfl,by simp,Dg.rep _,fun j hj _=>by simp,by simp[dv,Bt]⟩ (l8 (by omega)) ?_
  rintro i ⟨s,l⟩ hi ⟨h1,hl,hd,hz,he⟩
  simp only at h1 hl hd hz he
  subst h1
  simp only[nx]
  by_cases hlt:i<a.length
  ·left
   obtain⟨m,g1,g2,g3,g4,g5⟩:=Lp (i:=i) (n:=a.length+b.length) ha hb hlt hd hl (by omega) hf hz
   rw[if_pos (by simpa using hlt),g1,Option.bind_some]
   have e1:IntKind.i64.wrap ((i:Int)+1)=((i+1:Nat):Int):=by rw[iJ (by omega)];omega
   refine⟨hlt,_,rfl,e1,g2,g3,fun j hj hij=>g4 j hj (by omega),?_⟩
   rw[g5,he,eY hlt,Int.add_mul,Int.mul_assoc]
  ·right
   have hia:i=a.length:=by omega
   subst hia
   refine⟨l,by rw[if_neg (by simp)],hl,hd,?_⟩
   rw[he,List.take_length]
 obtain⟨l,h1,h2,h3,h4⟩:=key
 unfold jg
 have e:IntKind.i64.wrap ((a.length:Int)+(b.length:Int))=((a.length+b.length:Nat):Int):=by rw[iJ (by omega)];omega
 rw[e,Xn hf,Option.bind_some,h1,Option.bind_some,pM,Ps (by unfold Fit;omega) h3,h4]
theorem EZ (l:List Int) (i:Nat):dv l=dv (l.take i)+pw i*dv (l.drop i):=by
 by_cases h:i≤l.length
 ·exact hZ l h
 ·rw[List.take_of_length_le (by omega),List.drop_eq_nil_of_le (by omega)];simp[dv]
theorem vJ (l:List Int) (i:Nat):dv (l.drop i)=gd l i+1048576*dv (l.drop (i+1)):=by
 by_cases h:i<l.length
 ·rw[jb h,Ot h]
 ·rw[List.drop_eq_nil_of_le (by omega),List.drop_eq_nil_of_le (by omega),Jl (by omega)];simp[dv]
theorem Bu {l:List Int} (h:Dg l) (i:Nat):0≤dv (l.take i)∧dv (l.take i)<pw i:=by
 have h1:=nP (h.take i)
 have h2:=um (show (l.take i).length≤i by rw[List.length_take];omega)
 exact⟨cy (h.take i),by omega⟩
theorem RQ {a b:List Int} (ha:Dg a) (hb:Dg b) {k:Nat} (he:dv (a.drop (k+1))=dv (b.drop (k+1))) (hlt:gd a k<gd b k):dv a<dv b:=by
 have ea:=EZ a k
 have eb:=EZ b k
 rw[vJ]at ea eb
 have la:=Bu ha k
 have lb:=Bu hb k
 have hp:=lx k
 have:pw k*(gd a k+1048576*dv (a.drop (k+1))+1)≤pw k*(gd b k+1048576*dv (b.drop (k+1))):=Int.mul_le_mul_of_nonneg_left (by omega) (by omega)
 rw[Int.mul_add _ _ 1,Int.mul_one]at this
 omega
theorem VE {a b:List Int} (ha:Dg a) (hb:Dg b) (hfa:Fit a) (hfb:Fit b):mi a b=some (decide (dv a<dv b)):=by
 unfold Fit at hfa hfb
 generalize hm:max a.length b.length=m
 have em:(if (b.length:Int)>(a.length:Int) then (b.length:Int) else (a.length:Int))=(m:Int):=by split<;>omega
 have key:∃r,a8 (oZ a b) ((m:Int)-1)=some r∧(match r with | .inl _=>¬dv a<dv b | .inr x=>x=decide (dv a<dv b)):=by
  refine eF (I:=fun i s=>s=((m-i:Nat):Int)-1∧dv (a.drop (m-i))=dv (b.drop (m-i))) m _ ⟨rfl,?_⟩ (l8 (by omega)) ?_
  ·rw[List.drop_eq_nil_of_le (by omega),List.drop_eq_nil_of_le (by omega)]
  rintro i s hi ⟨rfl,he⟩
  generalize hk:m-i=k at *
  simp only[oZ]
  by_cases h0:0<k
  ·have ek:((k:Int)-1)=((k-1:Nat):Int):=by omega
   rw[ek,if_pos (by simp),wv,Option.bind_some,wv,Option.bind_some]
   rw[show k=k-1+1 by omega]at he
   by_cases hx:gd a (k-1)=gd b (k-1)
   ·left
    rw[if_neg (by simpa using hx)]
    refine⟨by omega,_,rfl,by rw[iJ (by omega)];omega,?_⟩
    rw[show m-(i+1)=k-1 by omega,vJ,vJ b,hx,he]
   ·right
    rw[if_pos (by simpa using hx)]
    refine⟨.inr (decide (gd a (k-1)<gd b (k-1))),rfl,?_⟩
    rcases Int.lt_or_gt_of_ne hx with h|h
    ·have:=RQ ha hb he h
     simp[h,this]
    ·have:=RQ hb ha he.symm h
     have h1:¬gd a (k-1)<gd b (k-1):=by omega
     have h2:¬dv a<dv b:=by omega
     simp[h1,h2]
  ·right
   have:k=0:=by omega
   subst this
   refine⟨.inl (),by rw[if_neg (by simp)],?_⟩
   simp only[List.drop_zero]at he
   omega
 obtain⟨r,h1,h2⟩:=key
 unfold mi
 rw[em,iJ (x:=(m:Int)-1) (by omega),h1,Option.bind_some]
 cases r with
 | inl u=>simp only at h2 ⊢;simp[h2]
 | inr x=>simp only at h2 ⊢;rw[h2]
theorem Wk {a b:List Int} (ha:Dg a) (hb:Dg b) (hf:Fit a) (hab:b.length≤a.length) (hle:dv b≤dv a):j8 a b=some (aL (dv a-dv b).toNat):=by
 unfold Fit at hf
 have key:∃l,a8 (nw a b) (0,0,[])=some l∧l.length=a.length∧Dg l∧dv l=dv a-dv b:=by
  refine eF (I:=fun i s=>s.2.1=(i:Int)∧s.2.2.length=i∧Dg s.2.2∧(0≤s.1∧s.1≤1)∧dv s.2.2+dv (b.take i)=dv (a.take i)+pw i*s.1)
   a.length _ ⟨rfl,rfl,Dg.nil,by simp,by simp[dv]⟩ (l8 (by omega)) ?_
  rintro i ⟨c,s,l⟩ hi ⟨h1,hl,hd,hc,he⟩
  simp only at h1 hl hd hc he
  subst h1
  simp only[nw]
  by_cases hlt:i<a.length
  ·left
   have ga:=ha.get hlt
   have gb:=Oq hb i
   rw[if_pos (by simpa using hlt),cv hlt,Option.bind_some,wv,Option.bind_some,iJ (x:=a[i]-gd b i) (by omega),iJ (x:=a[i]-gd b i-c) (by omega)]
   have e1:IntKind.i64.wrap ((i:Int)+1)=((i+1:Nat):Int):=by rw[iJ (by omega)];omega
   by_cases hn:a[i]-gd b i-c<0
   ·rw[if_pos (by simpa using hn),iJ (by omega),Dh (by simp;omega),Option.bind_some]
    refine⟨hlt,_,rfl,e1,by simp[hl],hd.append (Dg.mk (by omega) Dg.nil),by simp,?_⟩
    simp only
    rw[fk,wS,eY hlt,hl,OR]
    simp only[dv,Int.mul_zero,Int.add_zero,Int.mul_one]
    rw[Int.mul_add,Int.mul_sub,Int.mul_sub]
    omega
   ·rw[if_neg (by simpa using hn),Dh (by simp;omega),Option.bind_some]
    refine⟨hlt,_,rfl,e1,by simp[hl],hd.append (Dg.mk (by omega) Dg.nil),by simp,?_⟩
    simp only
    rw[fk,wS,eY hlt,hl]
    simp only[dv,Int.mul_zero,Int.add_zero]
    rw[Int.mul_sub,Int.mul_sub]
    omega
  ·right
   have hia:i=a.length:=by omega
   subst hia
   refine⟨l,by rw[if_neg (by simp)],hl,hd,?_⟩
   rw[GP hab,List.take_length]at he
   have h1:=nP hd
   rw[hl]at h1
   have hc0:c=0:=by
    rcases (show c=0∨c=1 by omega) with h|h
    ·exact h
    ·subst h;omega
   subst hc0
   omega
 obtain⟨l,h1,h2,h3,h4⟩:=key
 unfold j8
 rw[h1,Option.bind_some,pM,Ps (by unfold Fit;omega) h3,h4]
theorem KP {n R:Nat} (hn:n≠0) (hfn:(aL n).length≤17592186043904) (hfR:(aL R).length≤17592186043906) (hR:R<1048576*n):a8 (ml (aL n) (aL R)) (0,1048576)=some ((R / n:Nat):Int):=by
 have key:∃r,a8 (ml (aL n) (aL R)) (0,1048576)=some r∧r=((R / n:Nat):Int):=by
  refine eV (I:=fun (s:Int×Int)=>∃lo hi:Nat,s=((lo:Int),(hi:Int))∧lo<hi∧hi≤1048576∧lo*n≤R∧R<hi*n) (μ:=fun (s:Int×Int)=>(s.2-s.1).toNat) _ ⟨0,1048576,rfl,by omega,by omega,by omega,hR⟩ (by simp only;unfold FU;omega) ?_
  rintro _ ⟨lo,hi,rfl,h1,h2,h3,h4⟩
  simp only[ml]
  rw[iJ (x:=(hi:Int)-lo) (by omega)]
  by_cases hgo:(hi:Int)-lo>1
  ·left
   have em:((lo:Int)+hi) / 2=(((lo+hi) / 2:Nat):Int):=by omega
   have hd:Dg [(((lo+hi) / 2:Nat):Int)]:=Dg.mk (by omega) Dg.nil
   have ed:dv (aL n)*dv [(((lo+hi) / 2:Nat):Int)]=((n*((lo+hi) / 2):Nat):Int):=by rw[bP,Int.natCast_mul];simp[dv]
   rw[if_pos (by simpa using hgo),iJ (x:=(lo:Int)+hi) (by omega),Us (by omega) (by omega) (by omega),Option.bind_some,em,Nk (cL n) hd (by simp;omega),Option.bind_some,ed,Int.toNat_natCast]
   have hfl:(aL (n*((lo+hi) / 2))).length≤17592186043905:=by
    have:((n*((lo+hi) / 2):Nat):Int)<pw ((aL n).length+1):=by
     rw[jI,Int.natCast_mul]
     have a1:=eS n
     have:(n:Int)*((lo+hi) / 2:Nat)≤n*1048576:=Int.mul_le_mul_of_nonneg_left (by omega) (by omega)
     omega
    have:=fM this
    omega
   rw[VE (cL R) (cL _) (by unfold Fit;omega) (by unfold Fit;omega),Option.bind_some,bP,bP]
   by_cases hc:R<n*((lo+hi) / 2)
   ·rw[if_pos (decide_eq_true (by omega))]
    refine⟨_,rfl,⟨lo,(lo+hi) / 2,rfl,by omega,by omega,h3,by rw[Nat.mul_comm];exact hc⟩,by simp only;omega⟩
   ·rw[if_neg (by rw[decide_eq_true_eq];omega)]
    refine⟨_,rfl,⟨(lo+hi) / 2,hi,rfl,by omega,by omega,by rw[Nat.mul_comm];omega,h4⟩,by simp only;omega⟩
  ·right
   refine⟨_,by rw[if_neg (by simpa using hgo)],?_⟩
   have:hi=lo+1:=by omega
   subst this
   congr 1
   have:R / n=lo:=by
    apply Nat.div_eq_of_lt_le
    ·exact h3
    ·exact h4
   exact this.symm
 obtain⟨r,h1,rfl⟩:=key
 exact h1
theorem Xx {m n:Nat} (hn:n≠0) (hfm:(aL m).length≤17592186043904) (hfn:(aL n).length≤17592186043904):mj (aL m) (aL n)=some (aL (m / n),aL (m % n)):=by
 generalize ha:aL m=a at *
 have hda:Dg a:=by rw[← ha];exact cL m
 have key:∃r,a8 (o0 a (aL n)) ([],(a.length:Int)-1,List.replicate a.length 0)=some r∧r.2.length=a.length∧Dg r.2∧∃R:Nat,r.1=aL R∧R<n∧dv a=n*dv r.2+R:=by
  refine eF (I:=fun i s=>s.2.1=((a.length-i:Nat):Int)-1∧s.2.2.length=a.length∧Dg s.2.2∧∃R:Nat,s.1=aL R∧R<n∧dv (a.drop (a.length-i))=n*dv (s.2.2.drop (a.length-i))+R)
   a.length _ ⟨rfl,by simp,Dg.rep _,0,cH.symm,by omega,by simp[dv]⟩ (l8 (by omega)) ?_
  rintro i ⟨r,s,l⟩ hi ⟨h1,hl,hg,R,h2,hR,he⟩
  simp only at h1 hl hg h2 he
  subst h1 h2
  generalize hk:a.length-i=k at *
  simp only[o0]
  by_cases h0:0<k
  ·left
   have hk1:k-1<a.length:=by omega
   have hk2:k-1<l.length:=by omega
   have ek:((k:Int)-1)=((k-1:Nat):Int):=by omega
   have ga:=hda.get hk1
   have hRl:=eM (show R≤n by omega)
   have hdR:Dg ([a[k-1]]++aL R):=(Dg.mk ga Dg.nil).append (cL R)
   obtain⟨X,hX⟩:∃X:Nat,a[k-1]+1048576*(R:Int)=X:=⟨(a[k-1]+1048576*(R:Int)).toNat,by omega⟩
   have hXn:X<1048576*n:=by omega
   have hXl:(aL X).length≤17592186043906:=by
    have:(X:Int)<pw ((aL n).length+1):=by
     rw[jI]
     have a1:=eS n
     omega
    have:=fM this
    omega
   rw[ek,if_pos (by simp),cv hk1,Option.bind_some,Dh (by simp;omega),Option.bind_some,C4 (n:=X) (by unfold Fit;simp;omega) hdR (by rw[fk,bP];simp only[dv,List.length_cons,List.length_nil];rw[show pw (0+1)=1048576 by decide];omega),Option.bind_some,KP hn hfn hXl hXn,Option.bind_some,cv hk2,Option.bind_some]
   have hq:X / n<1048576:=Nat.div_lt_of_lt_mul (by rw[Nat.mul_comm];exact hXn)
   have hq0:(0:Int)≤((X / n:Nat):Int):=Int.natCast_nonneg _
   rw[C4 (n:=X / n) (by simp[Fit]) (Dg.mk (by omega) Dg.nil) (by simp[dv]),Option.bind_some]
   have hql:(aL (X / n)).length≤1:=fM (by rw[jI,nn];omega)
   have hprod:(dv (aL n)*dv (aL (X / n))).toNat=n*(X / n):=by rw[bP,bP,← Int.natCast_mul];rfl
   rw[Nk (cL _) (cL _) (by omega),Option.bind_some,hprod]
   have hle:n*(X / n)≤X:=Nat.mul_div_le X n
   rw[Wk (cL _) (cL _) (by unfold Fit;omega) (eM hle) (by rw[bP,bP];omega),Option.bind_some,bP,bP]
   have hsub:((X:Int)-(n*(X / n):Nat)).toNat=X % n:=by
    have:=Nat.div_add_mod X n
    omega
   rw[hsub]
   have e1:IntKind.i64.wrap (((k-1:Nat):Int)-1)=((k-1:Nat):Int)-1:=iJ (by omega)
   refine⟨by omega,_,rfl,by rw[e1,show a.length-(i+1)=k-1 by omega],by simpa using hl,hg.set _ (by omega),X % n,rfl,Nat.mod_lt _ (by omega),?_⟩
   simp only[Int.toNat_natCast]
   rw[show a.length-(i+1)=k-1 by omega,jb hk1,jb (l:=l.set (k-1) _) (i:=k-1) (by simpa using hk2),show k-1+1=k by omega,List.getElem_set_self,List.drop_set_of_lt (by omega),he,Int.mul_add,Int.mul_add]
   have h3:=Nat.div_add_mod X n
   have e3:(n:Int)*(1048576*dv (l.drop k))=1048576*(n*dv (l.drop k)):=Int.mul_left_comm _ _ _
   rw[e3,← Int.natCast_mul n (X / n)]
   omega
  ·right
   have:k=0:=by omega
   subst this
   refine⟨(aL R,l),by rw[if_neg (by simp)],hl,hg,R,rfl,hR,?_⟩
   simpa using he
 obtain⟨⟨r,l⟩,h1,h2,h3,R,h4,h5,h6⟩:=key
 simp only at h2 h3 h4 h6
 unfold mj
 rw[Xn (by omega),Option.bind_some,iJ (x:=(a.length:Int)-1) (by omega),h1,Option.bind_some]
 simp only
 rw[← ha,bP]at h6
 have hl0:=cy h3
 obtain⟨Q,hQ⟩:∃Q:Nat,dv l=Q:=⟨(dv l).toNat,by omega⟩
 rw[hQ]at h6
 have hm:m=n*Q+R:=by
  have:((m:Nat):Int)=((n*Q+R:Nat):Int):=by rw[Int.natCast_add,Int.natCast_mul];exact h6
  omega
 have e1:m / n=Q:=by rw[hm,Nat.mul_add_div (by omega),Nat.div_eq_of_lt h5,Nat.add_zero]
 have e2:m % n=R:=by rw[hm,Nat.mul_add_mod,Nat.mod_eq_of_lt h5]
 rw[C4 (n:=Q) (by unfold Fit;omega) h3 hQ,Option.bind_some,h4,e1,e2]
theorem PT {a b:Nat} (ha:(aL a).length≤jo) (hb:(aL b).length≤jo):a8 oc (aL a,aL b)=some (aL (Nat.gcd a b)):=by
 have hL:jo=17592186043904:=rfl
 have key:∃r,a8 oc (aL a,aL b)=some r∧r=aL (Nat.gcd a b):=by
  have la:=OB (eS a)
  have lb:=OB (eS b)
  let val:List Int→Nat:=fun l=>(dv l).toNat
  have hval:∀n,val (aL n)=n:=fun n=>by show (dv (aL n)).toNat=n;rw[bP];rfl
  refine eV (I:=fun (s:List Int×List Int)=>∃x y,s=(aL x,aL y)∧Nat.gcd x y=Nat.gcd a b∧(aL x).length≤jo∧(aL y).length≤jo)
   (μ:=fun (s:List Int×List Int)=>lg (val s.1)+lg (val s.2)+(if val s.1<val s.2 then 1 else 0)) _ ⟨a,b,rfl,rfl,ha,hb⟩ (by simp only[hval];unfold FU;split<;>omega) ?_
  rintro _ ⟨x,y,rfl,hg,hx,hy⟩
  simp only[oc]
  by_cases h0:y=0
  ·right
   subst h0
   refine⟨_,by rw[cH,if_neg (by simp)],?_⟩
   rw[← hg,Nat.gcd_zero_right]
  ·left
   have hne:0<(aL y).length:=List.length_pos_iff.2 (fun h=>h0 (pF.1 h))
   rw[if_pos (by simpa using hne),Xx h0 (by omega) (by omega),Option.bind_some]
   have hlt:=Nat.mod_lt x (Nat.pos_of_ne_zero h0)
   refine⟨_,rfl,⟨y,x % y,rfl,?_,hy,?_⟩,?_⟩
   ·rw[← hg,Nat.gcd_comm y,← Nat.gcd_rec,Nat.gcd_comm]
   ·have:=eM (Nat.mod_le x y);omega
   ·simp only[hval]
    rw[if_neg (by omega)]
    by_cases hxy:x<y
    ·rw[if_pos hxy,Nat.mod_eq_of_lt hxy];omega
    ·rw[if_neg hxy]
     have:lg (x % y)<lg x:=by
      apply VF
      have h1:=Nat.div_add_mod x y
      have h2:1≤x / y:=(Nat.one_le_div_iff (by omega)).2 (by omega)
      have h3:y*1≤y*(x / y):=Nat.mul_le_mul_left _ h2
      omega
     omega
 obtain⟨r,h1,rfl⟩:=key
 exact h1
theorem Yv {x y:Int} (hx:Ln x≤jo) (hy:Ln y≤jo):oY (gm x) (gm y)=some (gm (Int.gcd x y),0):=by
 have hL:jo=17592186043904:=rfl
 unfold oY
 rw[nD (by omega),Option.bind_some]
 simp only[Bool.not_true,Bool.false_eq_true,if_false]
 rw[nD (by omega),Option.bind_some,Option.bind_some]
 simp only[Bool.not_true,Bool.false_eq_true,if_false]
 have hxd:(gm x).aa=aL x.natAbs:=rfl
 have hyd:(gm y).aa=aL y.natAbs:=rfl
 rw[hxd,hyd]
 have fx:(aL x.natAbs).length≤17592186043904:=by show Ln x≤_;omega
 have fy:(aL y.natAbs).length≤17592186043904:=by show Ln y≤_;omega
 have fg:(aL (Nat.gcd x.natAbs y.natAbs)).length≤17592186043904:=by
  by_cases h:y.natAbs=0
  ·rw[h,Nat.gcd_zero_right];exact fx
  ·have:=eM (Nat.gcd_le_right x.natAbs (Nat.pos_of_ne_zero h));omega
 have hgn:Nat.gcd x.natAbs y.natAbs=((Int.gcd x y:Nat):Int).natAbs:=rfl
 rw[PT (by omega) (by omega),Option.bind_some,Cj (x:=(Int.gcd x y:Int)) hgn ?_ (fun _=>by omega),Option.bind_some]
 intro h
 rw[Int.sign_eq_one_of_pos (by omega)]
theorem SB {x:Int} (hx : -9223372036854775808≤x∧x<9223372036854775808):∃l,a8 uu (x,[])=some l∧Dg l∧dv l=x.natAbs∧l.length≤5:=by
 refine eV (I:=fun (s:Int×List Int)=>Dg s.2∧dv s.2+pw s.2.length*s.1.natAbs=x.natAbs∧s.2.length≤5∧(s.1=0∨s.2.length<5)) (μ:=fun (s:Int×List Int)=>s.1.natAbs) _ ⟨Dg.nil,by simp[dv,nn],by simp,by simp⟩ (by simp only;unfold FU;omega) ?_
 rintro⟨u,l⟩ ⟨hd,h2,h3,h5⟩
 simp only at hd h2 h3 h5
 have hp:=lx l.length
 have hdl:=cy hd
 have hu:(u.natAbs:Int)≤x.natAbs:=by
  have:1*(u.natAbs:Int)≤pw l.length*u.natAbs:=Int.mul_le_mul_of_nonneg_right (by omega) (by omega)
  omega
 simp only[uu]
 by_cases h0:u≠0
 ·left
  have hl4:l.length<4:=by
   rcases Nat.lt_or_ge l.length 4 with h|h
   ·exact h
   ·have h4:l.length=4:=by omega
    rw[h4,YZ]at h2
    omega
  have hm:tk .i64 u 1048576=some (u.tmod 1048576):=by unfold tk;rw[if_neg (by decide)]
  have hq:xV .i64 u 1048576=some (u.tdiv 1048576):=by
   unfold xV
   have:(u.tdiv 1048576).natAbs=u.natAbs / 1048576:=Int.natAbs_tdiv u 1048576
   rw[if_neg (by decide),iJ (by omega)]
  have ha:(u.tmod 1048576).natAbs=u.natAbs % 1048576:=Int.natAbs_tmod u 1048576
  have hb:(u.tdiv 1048576).natAbs=u.natAbs / 1048576:=Int.natAbs_tdiv u 1048576
  have hpd:=yx l.length (u.natAbs:Int)
  rw[if_pos (by simpa using h0),hm,Option.bind_some]
  have fin:∀d:Int,d=((u.natAbs % 1048576:Nat):Int)→(Dg (l++[d])∧dv (l++[d])+pw (l++[d]).length*((u.tdiv 1048576).natAbs:Int)=x.natAbs∧(l++[d]).length≤5∧(u.tdiv 1048576=0∨(l++[d]).length<5))∧(u.tdiv 1048576).natAbs<u.natAbs:=by
   rintro d rfl
   refine⟨⟨hd.append (Dg.mk (by omega) Dg.nil),?_,by simp;omega,by right;simp;omega⟩,by omega⟩
   rw[hb]
   simp only[fk,dv,List.length_append,List.length_cons,List.length_nil,Int.mul_zero,Int.add_zero,Nat.zero_add]
   rw[Int.natCast_emod,Int.natCast_ediv]
   have:((1048576:Nat):Int)=1048576:=rfl
   rw[this]
   omega
  by_cases hneg:u.tmod 1048576<0
  ·rw[if_pos (by simpa using hneg),iJ (x:=0-u.tmod 1048576) (by omega),Dh (by simp;omega),Option.bind_some,hq,Option.bind_some]
   have:=fin (0-u.tmod 1048576) (by omega)
   exact⟨_,rfl,this.1,this.2⟩
  ·rw[if_neg (by simpa using hneg),Dh (by simp;omega),Option.bind_some,hq,Option.bind_some]
   have:=fin (u.tmod 1048576) (by omega)
   exact⟨_,rfl,this.1,this.2⟩
 ·right
  have:u=0:=by omega
  subst this
  refine⟨l,by rw[if_neg (by simp)],hd,?_,h3⟩
  simp at h2
  omega
theorem Zk {x:Int} (h : -9223372036854775808≤x∧x<9223372036854775808):qV x=some (gm x):=by
 unfold qV
 by_cases h0:x=0
 ·subst h0;rw[Cl];rfl
 ·have hT:(if decide (x<0)=true then some (-1:Int) else some 1)=some x.sign:=by
   rcases gB x with⟨a,b,c⟩|⟨a,b,c⟩|⟨a,b⟩
   ·rw[if_neg (by simp;omega),a]
   ·rw[if_pos (by simp;omega),a]
   ·exact absurd b h0
  obtain⟨l,h1,h2,h3,h4⟩:=SB h
  rw[if_neg (by simpa using h0),hT,Option.bind_some,h1,Option.bind_some,pM,OE x (by unfold Fit;omega) h2 h3 (fun _=>rfl)]
instance:DecidableEq az:=fun a b=>decidable_of_iff (a.aj=b.aj∧a.aa=b.aa) (by cases a;cases b;simp)
instance:DecidableEq ba:=fun a b=>decidable_of_iff (a.cz=b.cz∧a.cw=b.cw) (by cases a;cases b;simp)
theorem Qz {b c:az} (hf:Fit b.aa) (hl:b.aa.length=c.aa.length):∃r,a8 (tD b c) 0=some r∧(match r with | .inl _=>b.aa=c.aa | .inr x=>x=false∧b.aa≠c.aa):=by
 refine eF (I:=fun i s=>s=(i:Int)∧b.aa.take i=c.aa.take i) b.aa.length _ ⟨rfl,by simp⟩ (l8 hf) ?_
 unfold Fit at hf
 rintro i s hi ⟨rfl,he⟩
 simp only[tD]
 by_cases hlt:i<b.aa.length
 ·rw[if_pos (by simpa using hlt),cv hlt,Option.bind_some,cv (by omega),Option.bind_some]
  by_cases hx:b.aa[i]=c.aa[i]
  ·left
   rw[if_neg (by simpa using hx)]
   refine⟨hlt,_,rfl,by rw[iJ (by omega)];omega,?_⟩
   rw[List.take_add_one,List.take_add_one,he]
   simp[hlt,show i<c.aa.length by omega,hx]
  ·right
   rw[if_pos (by simpa using hx)]
   refine⟨.inr false,rfl,rfl,fun h=>hx ?_⟩
   simp[h]
 ·right
  have:i=b.aa.length:=by omega
  subst this
  refine⟨.inl (),by rw[if_neg (by simp)],?_⟩
  rw[List.take_length,List.take_of_length_le (by omega)]at he
  exact he
theorem UW {b c:az} (hf:Fit b.aa):xk b c=some (decide (b=c)):=by
 have hiff:b=c↔b.aj=c.aj∧b.aa=c.aa:=by cases b;cases c;simp
 unfold xk
 by_cases h1:b.aj=c.aj
 ·rw[if_neg (by simpa using h1),Option.bind_some]
  by_cases h2:b.aa.length=c.aa.length
  ·rw[if_neg (by simp;omega)]
   obtain⟨r,h3,h4⟩:=Qz hf h2
   rw[h3,Option.bind_some]
   cases r with
   | inl u=>simp only at h4 ⊢;simp[hiff,h1,h4]
   | inr x=>simp only at h4 ⊢;simp[hiff,h1,h4.1,h4.2]
  ·rw[if_pos (by simp;omega)]
   have:b≠c:=fun h=>h2 (by rw[h])
   simp[this]
 ·rw[if_pos (by simpa using h1),Option.bind_some,if_pos rfl]
  have:b≠c:=fun h=>h1 (by rw[h])
  simp[this]
theorem XA {b c:az} (hf:Fit b.aa):xk b c=some (decide (b=c)):=UW hf
theorem HZ {x y:Int} (hx:Ln x≤jo) (hy:Ln y≤jo):mh (gm x) (gm y)=some (ld x y):=by
 have hL:jo=17592186043904:=rfl
 unfold mh
 rw[nD (by omega),Option.bind_some]
 simp only[Bool.not_true,Bool.false_eq_true,if_false]
 rw[nD (by omega),Option.bind_some]
 simp only[Bool.not_true,Bool.false_eq_true,if_false]
 have fx:(aL x.natAbs).length≤17592186043904:=by show Ln x≤_;omega
 have fy:(aL y.natAbs).length≤17592186043904:=by show Ln y≤_;omega
 rw[XA (by unfold Fit;show Ln x≤_;omega),Option.bind_some,Option.bind_some]
 have hxd:(gm x).aa=aL x.natAbs:=rfl
 have hyd:(gm y).aa=aL y.natAbs:=rfl
 have hxs:(gm x).aj=x.sign:=rfl
 have hys:(gm y).aj=y.sign:=rfl
 by_cases he:x=y
 ·subst he
  rw[if_pos (by simp)]
  simp[ld]
 ·rw[if_neg (by simp only[decide_eq_true_eq];exact fun h=>he (Hk h)),hxd,hyd,hxs,hys]
  by_cases h:x.sign=y.sign
  ·rw[if_neg (by simpa using h),VE (cL _) (cL _) (by unfold Fit;omega) (by unfold Fit;omega),Option.bind_some,bP,bP]
   have hc:ld x y=if x<y then -1 else 1:=by
    unfold ld
    split
    ·rfl
    ·rw[if_pos (by omega)]
   rcases gB x with⟨a,b,c⟩|⟨a,b,c⟩|⟨a,b⟩<;>rcases gB y with⟨a',b',c'⟩|⟨a',b',c'⟩|⟨a',b'⟩<;>(try (rw[a,a']at h;exact absurd h (by decide)))
   ·rw[a,hc]
    by_cases hlt:x<y
    ·have h1:(x.natAbs:Int)<y.natAbs:=by omega
     rw[if_pos hlt,decide_eq_true h1];rfl
    ·have h1:¬(x.natAbs:Int)<y.natAbs:=by omega
     rw[if_neg hlt,decide_eq_false h1];rfl
   ·rw[a,hc]
    by_cases hlt:x<y
    ·have h1:¬(x.natAbs:Int)<y.natAbs:=by omega
     rw[if_pos hlt,decide_eq_false h1];rfl
    ·have h1:(x.natAbs:Int)<y.natAbs:=by omega
     rw[if_neg hlt,decide_eq_true h1];rfl
   ·exact absurd (b.trans b'.symm) he
  ·rw[if_pos (by simpa using h)]
   unfold ld
   rcases gB x with⟨a,b,c⟩|⟨a,b,c⟩|⟨a,b⟩<;>rcases gB y with⟨a',b',c'⟩|⟨a',b',c'⟩|⟨a',b'⟩<;>(try (exact absurd (a.trans a'.symm) h))<;>rw[a,a']<;>(try rw[if_pos (show x<y by omega)])<;>(try rw[if_neg (show ¬x<y by omega),if_pos (show y<x by omega)])<;>rfl
theorem AN {f:ba} (hf:Px f):lz f=some (okF f):=by
 have hL:jo=17592186043904:=rfl
 obtain⟨p,q⟩:=f
 simp only[Px]at hf
 unfold lz okF
 rw[M0 (show Fit p.aa by unfold Fit;omega),Option.bind_some]
 by_cases h1:okB p=true
 ·simp only[h1,Bool.not_true,Bool.false_eq_true,if_false,Bool.true_and]
  rw[M0 (show Fit q.aa by unfold Fit;omega),Option.bind_some]
  by_cases h2:okB q=true
  ·simp only[h2,Bool.not_true,Bool.false_eq_true,if_false,Bool.true_and,Option.bind_some]
   obtain⟨x,rfl⟩:=qR.1 h1
   obtain⟨y,rfl⟩:=qR.1 h2
   have hys:(gm y).aj=y.sign:=rfl
   by_cases h3:y.sign=1
   ·rw[if_neg (by rw[hys,h3];decide),Yv hf.1 hf.2,Option.bind_some,Zk (by decide),Option.bind_some]
    have h5:(dv (gm x).aa).toNat=x.natAbs:=by show (dv (aL _)).toNat=_;rw[bP];rfl
    have h6:(dv (gm y).aa).toNat=y.natAbs:=by show (dv (aL _)).toNat=_;rw[bP];rfl
    have hy:0<y.natAbs:=by rcases gB y with⟨a,b,c⟩|⟨a,b,c⟩|⟨a,b⟩<;>omega
    have hgl:Ln (Int.gcd x y:Int)≤jo:=by
     have:=eM (Nat.gcd_le_right x.natAbs hy)
     have h7:(aL y.natAbs).length≤jo:=hf.2
     show (aL (Nat.gcd x.natAbs y.natAbs)).length≤_
     omega
    simp only
    rw[HZ hgl (Nat.le_trans (H2 (by decide)) (by decide)),Option.bind_some,h5,h6,hys,h3]
    have hg:Nat.gcd x.natAbs y.natAbs=Int.gcd x y:=rfl
    congr 1
    unfold ld
    by_cases h:Int.gcd x y=1
    ·rw[decide_eq_true (hg.trans h),h];rfl
    ·have h1:¬((Int.gcd x y:Nat):Int)=1:=by omega
     rw[decide_eq_false (fun h'=>h (hg.symm.trans h'))]
     split
     ·rfl
     ·rw[if_pos (by omega)];rfl
   ·have h4:((gm y).aj==1)=false:=by rw[hys];simpa using h3
    rw[if_pos (by rw[hys];have:=uB y;simp;omega),h4]
    rfl
  ·simp only[h2,Bool.not_false,if_true,Option.bind_some,Bool.false_and]
 ·simp only[h1,Bool.not_false,if_true,Option.bind_some,Bool.false_and]
theorem W9 (f:ba) (n:Int):pb f n=some (decide ((f.cz.aa.length:Int)≤n∧(f.cw.aa.length:Int)≤n)):=by
 unfold pb
 by_cases h:(f.cz.aa.length:Int)≤n
 ·rw[if_pos (by simpa using h)];simp[h]
 ·rw[if_neg (by simpa using h)];simp[h]
end Go.Proofs.YtpkahnkoecbndaaGreatDoor.P
namespace Go.Proofs.YtpkahnkoecbndaaGreatDoor.P
open Go.RowKit T
set_option linter.unusedSimpArgs false
set_option linter.unusedVariables false
theorem least {Q:Nat→Prop} : ∀n,Q n→∃m,m≤n∧Q m∧∀j,j<m→¬Q j:=by
 intro n
 induction n using Nat.strongRecOn with
 | _ n ih =>
  intro hn
  by_cases h:∃j,j<n∧Q j
  ·obtain⟨j,h1,h2⟩:=h
   obtain⟨m,m1,m2⟩:=ih j h1 h2
   exact⟨m,by omega,m2⟩
  ·exact⟨n,Nat.le_refl _,hn,fun j hj hq=>h ⟨j,hj,hq⟩⟩
theorem allI {α ρ:Type} (l:List α) {body:Int→Option (Int⊕(Unit⊕ρ))} (p:Nat→α→Prop) (bad:ρ) [∀i x,Decidable (p i x)] (hlen:l.length<4611686018427387904)
  (hb:∀(i:Nat) x,l[i]? = some x→(∀j y,j<i→l[j]? = some y→p j y)→body (i:Int)=some (if p i x then .inl ((i+1:Nat):Int) else .inr (.inr bad))) (he:body (l.length:Int)=some (.inr (.inl ()))) :
  (∃h:(∀i x,l[i]? = some x→p i x),a8 body 0=some (.inl ()))∨(∃h:¬(∀i x,l[i]? = some x→p i x),a8 body 0=some (.inr bad)):=by
 by_cases hall:∀i x,l[i]? = some x→p i x
 ·refine .inl ⟨hall,Gh l.length (fun i=>(i:Int)) hlen (fun i hi =>?_) he⟩
  rw[hb i l[i] (List.getElem?_eq_getElem hi) (fun j y _ hj=>hall j y hj),if_pos (hall i _ (List.getElem?_eq_getElem hi))]
 ·have:∃n x,l[n]? = some x∧¬p n x:=by
   refine Classical.byContradiction fun hc=>hall fun i x hx=>Classical.byContradiction fun hp=>hc ⟨i,x,hx,hp⟩
  obtain⟨n,hn⟩:=this
  obtain⟨m,-,⟨x,hx,hp⟩,hm⟩:=least (Q:=fun n=>∃x,l[n]? = some x∧¬p n x) n hn
  have hbefore:∀j y,j<m→l[j]? = some y→p j y:=fun j y hj hy=>Classical.byContradiction fun hq=>hm j hj ⟨y,hy,hq⟩
  have hml:=(List.getElem?_eq_some_iff.1 hx).1
  refine .inr ⟨hall,Gh m (fun i=>(i:Int)) (by omega) (fun i hi =>?_) ?_⟩
  ·have hil:i<l.length:=by omega
   rw[hb i l[i] (List.getElem?_eq_getElem hil) (fun j y hj hy=>hbefore j y (by omega) hy),if_pos (hbefore i _ hi (List.getElem?_eq_getElem hil))]
  ·rw[hb m x hx hbefore,if_neg hp]
theorem Oa {l:List Int} (h:l.length*8≤140737488351232):bD l=some l:=by
 unfold bD iH
 rw[if_pos ⟨by simp[maxLen];omega,by simp;omega⟩]
 rfl
theorem yH {l:List Int} (hl:l.length*8≤140737488351232):fI l=some (decide (¬l.Nodup)):=by
 have ht:=T.Ls hl
 unfold iX jw b8 AB at ht
 simp only[Option.bind_some]at ht
 unfold xn at ht
 rw[if_pos hl]at ht
 simp only[Option.bind_some]at ht
 unfold fI jQ
 rw[Oa hl]
 simp only[Option.bind_some]
 rw[if_pos (by omega)]
 exact ht
theorem has_eq (v:av) (i:Int):kW v i=some (decide (0≤i∧i<v.ag.length)):=by
 unfold kW
 by_cases h:0≤i
 ·rw[if_pos (by simpa using h)];simp[h]
 ·rw[if_neg (by simpa using h)];simp[h]
theorem Wt (v:av) (i:Int):yz v i=some (decide (0≤i∧i<v.ag.length)):=has_eq v i
def vq (l:List ak) (path:List Int) (i:Nat) (a:Int):Prop:=(0≤a∧a<l.length)∧(i=0∨∃p x,path[i-1]? = some p∧P.idx l p=some x∧(x.aY=a∨x.aQ=a))
def iZ (l:List ak) (path:List Int):Prop:=dm l∧path≠[]∧∀i a,path[i]? = some a→vq l path i a
theorem s8 {α:Type} {l:List α} {i:Int} {x:α} (h:P.idx l i=some x):0≤i∧i<l.length:=by
 unfold P.idx at h
 split at h
 ·assumption
 ·cases h
theorem Ml {α:Type} {l:List α} {i:Int} {x:α} (h:P.idx l i=some x):l[i.toNat]? = some x:=by
 unfold P.idx at h
 split at h
 ·exact h
 ·cases h
theorem Mm {α:Type} {l:List α} {i:Int} (h:0≤i∧i<l.length):∃x,P.idx l i=some x:=by
 refine⟨l[i.toNat]'(by omega),s9 h.1 ?_⟩
 exact List.getElem?_eq_getElem _
theorem Cb {path:List Int} (hl:path.length<4611686018427387904):P.idx path (IntKind.i64.wrap ((path.length:Int)-1))=path.getLast?:=by
 cases path with
 | nil=>rfl
 | cons a l =>
  have:IntKind.i64.wrap (((a::l).length:Int)-1)=((l.length:Nat):Int):=by
   rw[List.length_cons]at hl ⊢
   rw[wrap64 (by omega) (by omega)]
   omega
  rw[this,List.getLast?_eq_getElem?,bz (List.getElem?_eq_getElem (show l.length<(a::l).length by simp))]
  simp
open Classical in
theorem Lx {l:List ak} {path:List Int} (hl:path.length<4611686018427387904):gW ⟨l⟩ path=some (decide (iZ l path)):=by
 unfold gW
 obtain⟨b,hb,hs⟩:=T.kr ⟨l⟩
 rw[hb]
 simp only[Option.bind_some]
 cases b with
 | false =>
  have:¬dm l:=fun h=>absurd (hs.2 h) (by simp)
  simp[iZ,this]
 | true =>
  have hsd:=hs.1 rfl
  by_cases hp:path=[]
  ·subst hp;simp[iZ]
  ·have:¬((path.length:Int)==0)=true:=by
    have:path.length≠0:=fun h=>hp (List.eq_nil_of_length_eq_zero h)
    simp;exact hp
   simp only[Bool.not_true,Bool.false_eq_true,if_false,Option.bind_some]
   rw[if_neg this]
   have hloop:=allI path (body:=gg ⟨l⟩ path) (vq l path) false hl (fun i a ha hbef=>by
    have hi:=(List.getElem?_eq_some_iff.1 ha).1
    simp only[gg]
    rw[if_pos (by simp;omega),bz ha]
    simp only[Option.bind_some,has_eq]
    by_cases hin:0≤a∧a<l.length
    ·have hd:decide (0≤a∧a<(({ ag:=l } : av).ag.length:Int))=true:=decide_eq_true hin
     simp only[hd,Bool.not_true,Bool.false_eq_true,if_false]
     cases i with
     | zero =>
      rw[if_neg (by simp),if_pos (show vq l path 0 a from ⟨hin,.inl rfl⟩)]
      congr 2
     | succ i =>
      have hw:IntKind.i64.wrap (((i+1:Nat):Int)-1)=(i:Int):=by rw[wrap64 (by omega) (by omega)];omega
      have hpi:path[i]? = some (path[i]'(by omega)):=List.getElem?_eq_getElem _
      have hst:=hbef i _ (by omega) hpi
      obtain⟨x,hx⟩:=Mm hst.1
      rw[if_pos (by simp),hw,bz hpi]
      simp only[Option.bind_some,hx]
      have hiff:vq l path (i+1) a↔(x.aY=a∨x.aQ=a):=by
       constructor
       ·rintro⟨-,h|⟨p,y,h1,h2,h3⟩⟩
        ·omega
        ·simp only[Nat.add_sub_cancel]at h1
         rw[hpi]at h1;cases h1
         rw[hx]at h2;cases h2
         exact h3
       ·exact fun h=>⟨hin,.inr ⟨_,x,hpi,hx,h⟩⟩
      have hw2:IntKind.i64.wrap (((i+1:Nat):Int)+1)=((i+1+1:Nat):Int):=de (by omega)
      by_cases h1:x.aY=a
      ·rw[if_neg (by simp[h1]),if_pos (hiff.2 (.inl h1)),hw2]
      ·rw[if_pos (by simp[h1])]
       by_cases h2:x.aQ=a
       ·rw[if_neg (by simp[h2]),if_pos (hiff.2 (.inr h2)),hw2]
       ·rw[if_pos (by simp[h2]),if_neg (fun h=>(hiff.1 h).elim h1 h2)]
    ·have hd:decide (0≤a∧a<(({ ag:=l } : av).ag.length:Int))=false:=decide_eq_false hin
     simp only[hd,Bool.not_false,if_true]
     rw[if_neg (fun h:vq l path i a=>hin h.1)]) (by simp only[gg];rw[if_neg (by simp)])
   rcases hloop with⟨h,he⟩|⟨h,he⟩
   ·rw[he];simp only[Option.bind_some];rw[decide_eq_true (show iZ l path from ⟨hsd,hp,h⟩)]
   ·rw[he];simp only[Option.bind_some];rw[decide_eq_false (fun hw:iZ l path=>h hw.2.2)]
theorem Qy (v:av) (path:List Int):lB v path=gW v path:=by
 unfold lB gW
 obtain⟨b,hb,hs⟩:=T.kr v
 obtain⟨c,hc,ht⟩:=T.Qu v.ag
 have hbc:b=c:=by
  cases b<;>cases c<;>simp_all
 have hL:nA v path=gg v path:=by
  funext s
  simp only[nA,gg,Wt,has_eq]
 rw[hb,show j9 v=some c from hc,hbc,hL]
def Gw (l:List ak) (path:List Int) (total blind:Int) (text:ByteArray) (value own:Int):Prop :=
 iZ l path∧∃a b x y,path.head? = some a∧path.getLast? = some b∧P.idx l a=some x∧P.idx l b=some y∧x.ay=total∧x.aA=blind∧y.aY = -1∧kG l b text value own
theorem Dc {l:List ak} {path:List Int} (h:iZ l path):∃a b x y,path.head? = some a∧path.getLast? = some b∧P.idx l a=some x∧P.idx l b=some y:=by
 obtain⟨-,h1,h2⟩:=h
 have hpos:0<path.length:=List.length_pos_iff.2 h1
 have ha:path[0]? = some path[0]:=List.getElem?_eq_getElem hpos
 have hb:path[path.length-1]? = some (path[path.length-1]'(by omega)):=List.getElem?_eq_getElem _
 obtain⟨x,hx⟩:=Mm (h2 _ _ ha).1
 obtain⟨y,hy⟩:=Mm (h2 _ _ hb).1
 exact⟨_,_,x,y,by rw[List.head?_eq_getElem?];exact ha,by rw[List.getLast?_eq_getElem?];exact hb,hx,hy⟩
theorem B3 (path:List Int):P.idx path 0=path.head?:=by
 cases path with
 | nil=>rfl
 | cons a l=>exact s9 (by omega) (by simp)
open Classical in
theorem Rv {l:List ak} {path:List Int} (hl:path.length<4611686018427387904) (total blind:Int) (text:ByteArray) (value own:Int):jR ⟨l⟩ path total blind text value own=some (decide (Gw l path total blind text value own)):=by
 unfold jR
 rw[Lx hl]
 simp only[Option.bind_some]
 by_cases hw:iZ l path
 ·rw[if_neg (by simp[hw])]
  obtain⟨a,b,x,y,ha,hb,hx,hy⟩:=Dc hw
  rw[B3,Cb hl,ha,hb]
  simp only[Option.bind_some,hx]
  have hiff:Gw l path total blind text value own↔x.ay=total∧x.aA=blind∧y.aY = -1∧kG l b text value own:=by
   constructor
   ·rintro⟨-,a',b',x',y',h1,h2,h3,h4,h5⟩
    rw[ha]at h1;cases h1
    rw[hb]at h2;cases h2
    rw[hx]at h3;cases h3
    rw[hy]at h4;cases h4
    exact h5
   ·exact fun h=>⟨hw,a,b,x,y,ha,hb,hx,hy,h⟩
  by_cases h1:x.ay=total
  ·rw[if_pos (by simp[h1])]
   by_cases h2:x.aA=blind
   ·rw[if_pos (by simp[h2]),hy]
    simp only[Option.bind_some,fj]
    by_cases h3:y.aY = -1
    ·rw[if_pos (by simp[h3]),T.H4]
     simp only[Option.bind_some]
     congr 1
     rw[decide_eq_decide,hiff]
     exact⟨fun h=>⟨h1,h2,h3,h⟩,fun h=>h.2.2.2⟩
    ·rw[if_neg (by simp[h3]),decide_eq_false (fun h=>h3 (hiff.1 h).2.2.1)]
   ·rw[if_neg (by simp[h2]),decide_eq_false (fun h=>h2 (hiff.1 h).2.1)]
  ·rw[if_neg (by simp[h1]),decide_eq_false (fun h=>h1 (hiff.1 h).1)]
 ·rw[if_pos (by simp[hw]),decide_eq_false (fun h:Gw l path total blind text value own=>hw h.1)]
def kT (l:List ak) (root total blind:Int) (x:aC):Prop:=x.bo.head? = some root∧x.bo.getLast? = some x.cg∧Gw l x.bo total blind x.bE x.ay x.aA
open Classical in
theorem S5 {l:List ak} {root total blind:Int} {x:aC} (hl:x.bo.length<4611686018427387904):dZ ⟨⟨l⟩,root,total,blind⟩ x=some (decide (kT l root total blind x)):=by
 unfold dZ
 by_cases hp:x.bo=[]
 ·rw[if_neg (by simp[hp]),decide_eq_false (fun h:kT l root total blind x=>by have:=h.1;rw[hp]at this;cases this)]
 ·have hpos:0<x.bo.length:=List.length_pos_iff.2 hp
  rw[if_pos (by simp;omega),B3]
  obtain⟨a,ha⟩:∃a,x.bo.head? = some a:=by cases h:x.bo with|nil=>exact absurd h hp|cons a l=>exact⟨a,rfl⟩
  obtain⟨b,hb⟩:∃b,x.bo.getLast? = some b:=⟨_,List.getLast?_eq_some_getLast hp⟩
  rw[ha]
  simp only[Option.bind_some]
  by_cases h1:a=root
  ·rw[if_pos (by simp[h1]),Cb hl,hb]
   simp only[Option.bind_some]
   by_cases h2:b=x.cg
   ·rw[if_pos (by simp[h2]),Rv hl]
    simp only[Option.bind_some]
    congr 1
    rw[decide_eq_decide]
    exact⟨fun h=>⟨by rw[ha,h1],by rw[hb,h2],h⟩,fun h=>h.2.2⟩
   ·rw[if_neg (by simp[h2]),decide_eq_false (fun h:kT l root total blind x=>h2 (by have:=h.2.1;rw[hb]at this;exact Option.some.inj this))]
  ·rw[if_neg (by simp[h1]),decide_eq_false (fun h:kT l root total blind x=>h1 (by have:=h.1;rw[ha]at this;exact Option.some.inj this))]
theorem WV {x y:Int} (hx:Ln x≤qh) (hy:Ln y≤qh):uq (gm x) (gm y)=some (gm (x*y),0):=by
 have hL:qh=4398046511104:=rfl
 have hLa:=xQ x y
 unfold uq
 rw[nD (by omega),Option.bind_some]
 simp only[Bool.not_true,Bool.false_eq_true,if_false]
 rw[nD (by omega),Option.bind_some,Option.bind_some]
 simp only[Bool.not_true,Bool.false_eq_true,if_false]
 have hxd:(gm x).aa=aL x.natAbs:=rfl
 have hyd:(gm y).aa=aL y.natAbs:=rfl
 have hxs:(gm x).aj=x.sign:=rfl
 have hys:(gm y).aj=y.sign:=rfl
 rw[hxd,hyd,hxs,hys]
 have fx:(aL x.natAbs).length≤4398046511104:=by show Ln x≤_;omega
 have fy:(aL y.natAbs).length≤4398046511104:=by show Ln y≤_;omega
 have hw:IntKind.i64.wrap (x.sign*y.sign)=(x*y).sign:=by
  rw[Int.sign_mul]
  apply iJ
  rcases uB x with h|h|h<;>rcases uB y with g|g|g<;>rw[h,g]<;>decide
 rw[hw,Nk (cL _) (cL _) (by omega),Option.bind_some,bP,bP]
 have hn:((x.natAbs:Int)*y.natAbs).toNat=(x*y).natAbs:=by rw[Int.natAbs_mul,← Int.natCast_mul];rfl
 rw[hn,Cj (x:=x*y) rfl (fun _=>rfl) (fun _=>by show Ln (x*y)≤_;omega),Option.bind_some]
theorem AD {a b:Rat} (h:LF a+LF b≤qh):mm (Av a) (Av b)=some (PB a b):=by
 have n1:=Gq a
 have n2:=Gq b
 have d1:=Gp a
 have d2:=Gp b
 have m1:=xQ a.num b.den
 have m2:=xQ b.num a.den
 have hL:qh=4398046511104:=rfl
 have hB:jo=17592186043904:=rfl
 unfold mm
 rw[AN (Al (by omega)),yo,Option.bind_some]
 simp only[Bool.not_true,Bool.false_eq_true,if_false]
 rw[AN (Al (by omega)),yo,Option.bind_some,Option.bind_some]
 simp only[Bool.not_true,Bool.false_eq_true,if_false]
 show (uq (gm a.num) (gm b.den)).bind _=_
 rw[WV (by omega) (by omega),Option.bind_some]
 show (uq (gm b.num) (gm a.den)).bind _=_
 rw[WV (by omega) (by omega),Option.bind_some]
 show (mh (gm (a.num*b.den)) (gm (b.num*a.den))).bind _=_
 rw[HZ (by omega) (by omega),Option.bind_some,Ob]
def pr (f:ba):Prop:=f.cz.aa.length≤4∧f.cw.aa.length≤4
def vV (s:ew):Prop:=pr s.bB∧pr s.aV
theorem pr.fit {f:ba} (h:pr f):Px f:=by
 have hB:jo=17592186043904:=rfl
 exact⟨by have:=h.1;omega,by have:=h.2;omega⟩
theorem pr.LF {q:Rat} (h:pr (Av q)):LF q≤4:=by
 have h1:Ln q.num≤4:=h.1
 have h2:Ln q.den≤4:=h.2
 unfold P.LF
 omega
theorem VW {n:Int} (h : -9223372036854775808≤n∧n<9223372036854775808):LF (n:Rat)≤5:=by
 have h1:Ln n≤5:=QV (by
  have:pw 5=1267650600228229401496703205376:=by decide
  omega)
 have h2:=H2 (x:=((1:Nat):Int)) (by decide)
 unfold P.LF
 rw[Rat.num_intCast,Rat.den_intCast]
 omega
theorem LW {a b:Rat} : decide (PB a b≤0)=decide (a≤b):=by
 unfold PB
 rw[decide_eq_decide]
 by_cases h1:a<b
 ·rw[if_pos h1];simp only[Int.reduceNeg,Int.reduceLE,true_iff];exact Rat.le_of_lt h1
 ·rw[if_neg h1]
  by_cases h2:b<a
  ·rw[if_pos h2];simp only[Int.reduceLE,false_iff];exact fun h=>absurd h2 (Rat.not_lt.2 h)
  ·rw[if_neg h2];simp only[Int.le_refl,true_iff];exact Rat.not_lt.1 h2
def sR (s:ew):Bool:=(fY s).getD false
def sH (s:ew) (n:Int):Bool:=(kU s (Av n)).getD false
def Ym (s:ew) (a b:Rat):Prop:=s.bB=Av a∧s.aV=Av b∧a≤b
theorem Gb {s:ew} (h:vV s):fY s=some (sR s)∧uw s=some (sR s)∧(sR s=true↔∃a b,Ym s a b):=by
 have hL:qh=4398046511104:=rfl
 have key:∃c,fY s=some c∧uw s=some c∧(c=true↔∃a b,Ym s a b):=by
  unfold fY uw
  rw[sB h.1.fit,AN h.1.fit]
  simp only[Option.bind_some]
  cases h1:okF s.bB with
  | false =>
   refine⟨false,by simp,by simp,by simp only[Bool.false_eq_true,false_iff];rintro⟨a,b,e,-⟩;rw[e,yo]at h1;cases h1⟩
  | true =>
   simp only[if_true]
   rw[sB h.2.fit,AN h.2.fit]
   simp only[Option.bind_some]
   cases h2:okF s.aV with
   | false =>
    refine⟨false,by simp,by simp,by simp only[Bool.false_eq_true,false_iff];rintro⟨a,b,-,e,-⟩;rw[e,yo]at h2;cases h2⟩
   | true =>
    obtain⟨a,ha⟩:=Hn.1 h1
    obtain⟨b,hb⟩:=Hn.1 h2
    have la:=pr.LF (ha ▸ h.1)
    have lb:=pr.LF (hb ▸ h.2)
    simp only[if_true]
    rw[ha,hb,xA (by omega),AD (by omega)]
    simp only[Option.bind_some,LW]
    refine⟨_,rfl,rfl,?_⟩
    rw[decide_eq_true_eq]
    constructor
    ·exact fun hle=>⟨a,b,ha,hb,hle⟩
    ·rintro⟨a',b',e1,e2,e3⟩
     rw[Aw (ha.symm.trans e1),Aw (hb.symm.trans e2)]
     exact e3
 obtain⟨c,h1,h2,h3⟩:=key
 have:sR s=c:=by unfold sR;rw[h1];rfl
 rw[this]
 exact⟨h1,h2,h3⟩
theorem U1 {s:ew} (h:vV s) {n:Int} (hn : -9223372036854775808≤n∧n<9223372036854775808):kU s (Av n)=some (sH s n)∧HH s (Av n)=some (sH s n)∧(sH s n=true↔∃a b,Ym s a b∧a≤n∧(n:Rat)≤b):=by
 have hL:qh=4398046511104:=rfl
 have hB:jo=17592186043904:=rfl
 obtain⟨r1,r2,r3⟩:=Gb h
 have ln:=VW hn
 have key:∃c,kU s (Av n)=some c∧HH s (Av n)=some c∧(c=true↔∃a b,Ym s a b∧a≤n∧(n:Rat)≤b):=by
  unfold kU HH
  rw[r1,r2]
  simp only[Option.bind_some]
  cases hr:sR s with
  | false =>
   refine⟨false,by simp,by simp,by simp only[Bool.false_eq_true,false_iff];rintro⟨a,b,hi,-⟩;have:=r3.2 ⟨a,b,hi⟩;rw[hr]at this;cases this⟩
  | true =>
   obtain⟨a,b,ha,hb,hle⟩:=r3.1 hr
   have la:=pr.LF (ha ▸ h.1)
   have lb:=pr.LF (hb ▸ h.2)
   simp only[if_true]
   rw[AO (by omega),AN (Al (by omega)),yo]
   simp only[Option.bind_some,if_true]
   rw[ha,hb,xA (by omega),AD (by omega)]
   simp only[Option.bind_some,LW]
   by_cases h1:a≤n
   ·simp only[h1,decide_true,if_true]
    rw[xA (by omega),AD (by omega)]
    simp only[Option.bind_some,LW]
    refine⟨_,rfl,rfl,?_⟩
    rw[decide_eq_true_eq]
    constructor
    ·exact fun h2=>⟨a,b,⟨ha,hb,hle⟩,h1,h2⟩
    ·rintro⟨a',b',⟨e1,e2,-⟩,-,e3⟩
     rw[Aw (hb.symm.trans e2)]
     exact e3
   ·simp only[h1,decide_false,Bool.false_eq_true,if_false]
    refine⟨false,rfl,rfl,?_⟩
    simp only[Bool.false_eq_true,false_iff]
    rintro⟨a',b',⟨e1,-⟩,e3,-⟩
    rw[← Aw (ha.symm.trans e1)]at e3
    exact h1 e3
 obtain⟨c,h1,h2,h3⟩:=key
 have:sH s n=c:=by unfold sH;rw[h1];rfl
 rw[this]
 exact⟨h1,h2,h3⟩
theorem W7 (s:ew):∃b,qW s 4=some b∧(b=true↔vV s):=by
 unfold qW
 rw[W9]
 simp only[Option.bind_some]
 by_cases h:((s.bB.cz.aa.length:Int)≤4∧(s.bB.cw.aa.length:Int)≤4)
 ·rw[if_pos (by simp[h]),W9]
  refine⟨_,rfl,?_⟩
  rw[decide_eq_true_eq]
  exact⟨fun h2=>⟨⟨by omega,by omega⟩,⟨by omega,by omega⟩⟩,fun h2=>⟨by have:=h2.2.1;omega,by have:=h2.2.2;omega⟩⟩
 ·rw[if_neg (by simpa using h)]
  refine⟨false,rfl,?_⟩
  simp only[Bool.false_eq_true,false_iff]
  exact fun h2=>h ⟨by have:=h2.1.1;omega,by have:=h2.1.2;omega⟩
theorem qA {α:Type} (q:α→Bool):∀(l:List α) (k:Nat),(l.find? q=none∧gw (fun i x=>if q x then some ((i:Nat):Int) else none) k l=none)∨∃(j:Nat) (x:α),l.find? q=some x∧l[j]? = some x∧gw (fun i x=>if q x then some ((i:Nat):Int) else none) k l=some ((k+j:Nat):Int)
 | [],k =>.inl ⟨rfl,rfl⟩
 | x::l,k=>by
  by_cases h:q x=true
  ·refine .inr ⟨0,x,by simp[h],rfl,?_⟩
   simp only[gw]
   rw[if_pos h]
   rfl
  ·have hf:(x::l).find? q=l.find? q:=by rw[List.find?_cons_of_neg h]
   have hs:gw (fun i x=>if q x then some ((i:Nat):Int) else none) k (x::l)=gw (fun i x=>if q x then some ((i:Nat):Int) else none) (k+1) l:=by
    simp only[gw]
    rw[if_neg h]
   rw[hf,hs]
   rcases qA q l (k+1) with h1|⟨j,y,h1,h2,h3⟩
   ·exact .inl h1
   ·exact .inr ⟨j+1,y,h1,by simpa using h2,by rw[h3];congr 2;omega⟩
theorem Sd {ops:List aC} (hl:ops.length<4611686018427387904) (leaf:Int):bg ops leaf=some (match gw (fun i x=>if (x.cg==leaf:Bool) then some ((i:Nat):Int) else none) 0 ops with|none => -1|some r=>r):=by
 unfold bg
 rw[Lb ops (fun i x=>if (x.cg==leaf:Bool) then some ((i:Nat):Int) else none) hl (fun i x hx=>by
  have hi:=(List.getElem?_eq_some_iff.1 hx).1
  simp only[cc,dS]
  rw[if_pos (by simp;omega),bz hx]
  simp only[Option.bind_some]
  by_cases h:(x.cg==leaf)=true
  ·rw[if_pos h,if_pos h]
  ·rw[if_neg h,if_neg h,de (by omega)]) (by simp only[cc];rw[if_neg (by simp)])]
 simp only[Option.bind_some]
 split<;>rename_i h<;>split at h<;>simp_all
def off (ms:List aG) (leaf value:Int):Bool:=ms.any fun m=>m.cg==leaf && !sH m.bL value
def Sw (ms:List aG):Prop:=ms.length<4611686018427387904∧∀m∈ms,vV m.bL
theorem contains_eq {ms:List aG} (h:Sw ms) (leaf:Int) {value:Int} (hv : -9223372036854775808≤value∧value<9223372036854775808):bf ms leaf (Av value)=some (off ms leaf value):=by
 unfold bf bK
 rw[Lb ms (fun i m=>if (m.cg==leaf && !sH m.bL value:Bool) then some ((i:Nat):Int) else none) h.1 (fun i x hx=>by
  have hi:=(List.getElem?_eq_some_iff.1 hx).1
  have:=h.1
  simp only[cm,dT]
  rw[if_pos (by simp;omega),bz hx]
  simp only[Option.bind_some]
  rw[(U1 (h.2 x (List.mem_of_getElem? hx)) hv).1]
  by_cases h1:(x.cg==leaf)=true
  ·simp only[h1,if_true,Option.bind_some,Bool.true_and]
   cases sH x.bL value<;>simp[de (show i<4611686018427387904 by omega)]
  ·simp only[h1,Bool.false_eq_true,if_false,Option.bind_some,Bool.false_and]
   rw[de (by omega)]) (by simp only[cm];rw[if_neg (by simp)])]
 simp only[Option.bind_some]
 rcases qA (fun m:aG=>m.cg==leaf && !sH m.bL value) ms 0 with⟨h1,h2⟩|⟨j,x,h1,h2,h3⟩
 ·rw[h2]
  simp only[Option.bind_some]
  have:off ms leaf value=false:=by
   unfold off
   rw[List.any_eq_false]
   intro m hm
   have:=List.find?_eq_none.1 h1 m hm
   simpa using this
  rw[this];rfl
 ·rw[h3]
  simp only[Option.bind_some]
  have:off ms leaf value=true:=by
   unfold off
   rw[List.any_eq_true]
   exact⟨x,List.mem_of_getElem? h2,by simpa using List.find?_some h1⟩
  rw[this]
  congr 1
open Classical in
noncomputable def pc (l:List ak) (root total blind leaf:Int) (ops:List aC) (ms:List aG):Int :=
 match ops.find? fun x=>x.cg==leaf with
 | none=>0
 | some x=>if kT l root total blind x then (if off ms leaf x.ay then 2 else -1) else 1
def FF (ops:List aC):Prop:=ops.length<4611686018427387904∧∀x∈ops,x.bo.length<4611686018427387904 ∧ -9223372036854775808≤x.ay∧x.ay<9223372036854775808
theorem Qv {ops:List aC} {ms:List aG} (ho:FF ops) (hm:Sw ms) (l:List ak) (root total blind leaf:Int):dQ ⟨⟨l⟩,root,total,blind⟩ leaf ops ms=some (pc l root total blind leaf ops ms):=by
 unfold dQ pc
 rw[Sd ho.1]
 simp only[Option.bind_some]
 rcases qA (fun x:aC=>x.cg==leaf) ops 0 with⟨h1,h2⟩|⟨j,x,h1,h2,h3⟩
 ·rw[h2,h1];rfl
 ·rw[h3,h1]
  have hox:=ho.2 x (List.mem_of_getElem? h2)
  simp only[Nat.zero_add]
  rw[if_neg (by simp),bz h2]
  simp only[Option.bind_some]
  rw[S5 hox.1]
  simp only[Option.bind_some]
  by_cases hs:kT l root total blind x
  ·rw[if_neg (by simp[hs]),if_pos hs,WT hox.2]
   simp only[Option.bind_some]
   rw[contains_eq hm leaf hox.2]
   simp only[Option.bind_some]
   cases off ms leaf x.ay<;>rfl
  ·rw[if_pos (by simp[hs]),if_neg hs]
noncomputable def oD (l:List ak) (root total blind:Int) (ops:List aC) (ms:List aG) (leaf:Int):Option bn :=
 if pc l root total blind leaf ops ms = -1 then none else some ⟨leaf,pc l root total blind leaf ops ms⟩
open Classical in
noncomputable def Mo (l:List ak) (root total blind:Int) (asked:List Int) (ops:List aC) (ms:List aG):List bn×Int :=
 if dm l∧0≤root∧root<l.length then (if ms.all fun m=>sR m.bL then (if asked.Nodup then (asked.filterMap (oD l root total blind ops ms),0) else ([],5)) else ([],1)) else ([],1)
theorem BN {α β:Type} (f:α→Option β) {l:List α} {i:Nat} {x:α} (h:l[i]? = some x):(l.take (i+1)).filterMap f=(l.take i).filterMap f++(f x).toList:=by
 obtain⟨hi,rfl⟩:=List.getElem?_eq_some_iff.1 h
 rw[List.take_succ_eq_append_getElem hi,List.filterMap_append]
 congr 1
theorem Qw {ms:List aG} (h:Sw ms):aF ms=some (!(ms.all fun m=>sR m.bL)):=by
 unfold aF ck
 rw[Lb ms (fun i m=>if (!sR m.bL:Bool) then some ((i:Nat):Int) else none) h.1 (fun i x hx=>by
  have hi:=(List.getElem?_eq_some_iff.1 hx).1
  have:=h.1
  simp only[cQ,ic]
  rw[if_pos (by simp;omega),bz hx]
  simp only[Option.bind_some]
  rw[(Gb (h.2 x (List.mem_of_getElem? hx))).1]
  simp only[Option.bind_some]
  cases sR x.bL<;>simp[de (show i<4611686018427387904 by omega)]) (by simp only[cQ];rw[if_neg (by simp)])]
 simp only[Option.bind_some]
 rcases qA (fun m:aG => !sR m.bL) ms 0 with⟨h1,h2⟩|⟨j,x,h1,h2,h3⟩
 ·rw[h2]
  have:(ms.all fun m=>sR m.bL)=true:=by
   rw[List.all_eq_true]
   intro m hm
   have:=List.find?_eq_none.1 h1 m hm
   simpa using this
  rw[this];rfl
 ·rw[h3]
  have:(ms.all fun m=>sR m.bL)=false:=by
   rw[List.all_eq_false]
   exact⟨x,List.mem_of_getElem? h2,by simpa using List.find?_some h1⟩
  rw[this]
  simp
open Classical in
theorem Sg {ops:List aC} {ms:List aG} {asked:List Int} (ho:FF ops) (hm:Sw ms) (ha:asked.length≤1000000) (l:List ak) (root total blind:Int):cY ⟨l⟩ root total blind asked ops ms=some (Mo l root total blind asked ops ms):=by
 unfold cY Mo
 obtain⟨b,hb,hs⟩:=T.kr ⟨l⟩
 rw[hb]
 simp only[Option.bind_some]
 have hgo:∀c:Bool,(c=false↔(dm l∧0≤root∧root<l.length))→(if c then some (([]:List bn),(1:Int)) else (aF ms).bind fun r4=>if r4 then some ([],1) else (fI asked).bind fun r6=>if r6 then some ([],5) else (a8 (dY ⟨l⟩ root total blind asked ops ms) (0,[])).bind fun l17bx=>some (l17bx,0))=some (if dm l∧0≤root∧root<l.length then (if ms.all fun m=>sR m.bL then (if asked.Nodup then (asked.filterMap (oD l root total blind ops ms),0) else ([],5)) else ([],1)) else ([],1)):=by
  intro c hc
  cases c with
  | true =>
   rw[if_pos rfl,if_neg (fun h=>absurd (hc.2 h) (by simp))]
  | false =>
   rw[if_neg (by simp),if_pos (hc.1 rfl),Qw hm]
   simp only[Option.bind_some]
   cases hall:ms.all fun m=>sR m.bL with
   | false=>simp
   | true =>
    simp only[Bool.not_true,Bool.false_eq_true,if_false,if_true]
    rw[yH (by omega)]
    simp only[Option.bind_some]
    by_cases hn:asked.Nodup
    ·rw[if_neg (by simp[hn]),if_pos hn]
     have hloop:=Gh (body:=dY ⟨l⟩ root total blind asked ops ms) asked.length (fun i=>((i:Int),(asked.take i).filterMap (oD l root total blind ops ms))) (r:=asked.filterMap (oD l root total blind ops ms)) (by omega) (fun i hi=>by
      have hx:asked[i]? = some asked[i]:=List.getElem?_eq_getElem hi
      simp only[dY]
      rw[if_pos (by simp;omega),bz hx]
      simp only[Option.bind_some]
      rw[Qv ho hm]
      simp only[Option.bind_some]
      rw[BN _ hx]
      have hlen:((asked.take i).filterMap (oD l root total blind ops ms)).length≤1000000-1:=by
       have h1:=List.length_filterMap_le (oD l root total blind ops ms) (asked.take i)
       have h2:(asked.take i).length≤i:=by simp;omega
       omega
      by_cases hr:pc l root total blind asked[i] ops ms = -1
      ·rw[if_neg (by simp[hr])]
       simp only[oD,hr,if_true,Option.toList_none,List.append_nil]
       rw[de (by omega)]
      ·rw[if_pos (by simp[hr]),pn (by simp;omega) (by decide)]
       simp only[Option.bind_some]
       rw[show oD l root total blind ops ms asked[i]=some ⟨asked[i],pc l root total blind asked[i] ops ms⟩ from if_neg hr,de (by omega)]
       rfl) (by
      simp only[dY]
      rw[if_neg (by simp),List.take_length])
     have hloop':a8 (dY ⟨l⟩ root total blind asked ops ms) (0,[])=some (asked.filterMap (oD l root total blind ops ms)):=hloop
     rw[hloop']
     rfl
    ·rw[if_pos (by simp[hn]),if_neg hn]
 cases b with
 | false =>
  have:¬dm l:=fun h=>absurd (hs.2 h) (by simp)
  exact hgo true ⟨fun h=>(by cases h),fun h=>absurd h.1 this⟩
 | true =>
  have hsd:=hs.1 rfl
  simp only[Bool.not_true,Bool.false_eq_true,if_false]
  by_cases h1:root<0
  ·rw[if_pos (by simp[h1])]
   exact hgo true ⟨fun h=>(by cases h),fun h=>(by omega)⟩
  ·rw[if_neg (by simp;omega)]
   refine hgo _ ?_
   rw[decide_eq_false_iff_not]
   exact⟨fun h=>⟨hsd,by omega,by omega⟩,fun h=>by omega⟩
theorem BO (x y:bn):((x.cg==y.cg)&&(x.kz==y.kz))=true↔x=y:=by
 obtain⟨x1,x2⟩:=x
 obtain⟨y1,y2⟩:=y
 simp
open Classical in
theorem HL {a b:List bn} (ha:a.length<4611686018427387904):ib a b=some (decide (a=b)):=by
 unfold ib
 by_cases hl:a.length=b.length
 ·rw[if_neg (by simp[hl])]
  have hloop:=allI a (body:=mn a b) (fun i x=>b[i]? = some x) false ha (fun i x hx _=>by
    have hi:=(List.getElem?_eq_some_iff.1 hx).1
    have hb:b[i]? = some (b[i]'(by omega)):=List.getElem?_eq_getElem _
    simp only[mn]
    rw[if_pos (by simp;omega),bz hx,bz hb]
    simp only[Option.bind_some]
    by_cases h:x=b[i]'(by omega)
    ·rw[if_neg (by rw[(BO x _).2 h];decide),if_pos (by rw[hb,h]),de (by omega)]
    ·have:((x.cg==(b[i]'(by omega)).cg)&&(x.kz==(b[i]'(by omega)).kz))=false:=by
      rw[Bool.eq_false_iff]
      exact fun hq=>h ((BO _ _).1 hq)
     rw[this,if_pos (by decide),if_neg (fun hq=>h (by rw[hb]at hq;exact (Option.some.inj hq).symm))]) (by simp only[mn];rw[if_neg (by simp)])
  rcases hloop with⟨h,he⟩|⟨h,he⟩
  ·rw[he]
   simp only[Option.bind_some]
   have:a=b:=by
    apply List.ext_getElem hl
    intro i h1 h2
    have:=h i a[i] (List.getElem?_eq_getElem h1)
    rw[List.getElem?_eq_getElem h2]at this
    exact (Option.some.inj this).symm
   rw[decide_eq_true this]
  ·rw[he]
   simp only[Option.bind_some]
   have:¬a=b:=by
    rintro rfl
    exact h fun i x hx=>hx
   rw[decide_eq_false this]
 ·rw[if_pos (by simp;omega),decide_eq_false (fun h=>hl (by rw[h]))]
theorem Xa {ops:List aC} {ms:List aG} (h1:ops.length<4611686018427387904) (h2:ms.length<4611686018427387904):∃b,rf ops ms=some b∧(b=true→ops.length≤14∧ms.length≤14∧∀m∈ms,vV m.bL):=by
 unfold rf
 obtain⟨r,hr,hp⟩:=eV (body:=rh ops) (fun s=>∃i:Nat,s=i∧i≤ops.length∧i≤15) (fun s=>(15-s).toNat) (fun r=>match r with | .inl _=>True | .inr b=>b=false) (s:=0) ⟨0,rfl,by omega,by omega⟩
  (by have:FU=1000000000000000000000000:=rfl;omega) (by
   rintro s ⟨i,rfl,g1,g2⟩
   unfold rh
   dsimp only
   by_cases hi:i<ops.length∧i≤14
   ·rw[if_pos (by simp;omega)]
    simp only[Option.bind_some]
    rw[if_pos (by simp;omega)]
    simp only[bz (List.getElem?_eq_getElem hi.1),Option.bind_some,de (show i<4611686018427387904 by omega)]
    split
    ·exact .inr ⟨_,rfl,rfl⟩
    ·split
     ·exact .inr ⟨_,rfl,rfl⟩
     ·exact .inl ⟨_,rfl,⟨i+1,rfl,by omega,by omega⟩,by omega⟩
   ·refine .inr ⟨.inl (),?_,trivial⟩
    by_cases hj:i<ops.length
    ·rw[if_pos (by simp;omega)]
     simp only[Option.bind_some]
     rw[if_neg (by simp;omega)]
    ·rw[if_neg (by simp;omega)]
     simp)
 rw[hr]
 simp only[Option.bind_some]
 cases r with
 | inr b=>subst hp;exact⟨_,rfl,fun h=>by cases h⟩
 | inl u =>
  obtain⟨r',hr',hp'⟩:=eV (body:=ri ms) (fun s=>∃i:Nat,s=i∧i≤ms.length∧i≤15∧∀j m,j<i→ms[j]? = some m→vV m.bL) (fun s=>(15-s).toNat) (fun r=>match r with | .inl _=>ms.length≤14→∀m∈ms,vV m.bL | .inr b=>b=false) (s:=0) ⟨0,rfl,by omega,by omega,fun j m hj=>by omega⟩
   (by have:FU=1000000000000000000000000:=rfl;omega) (by
    rintro s ⟨i,rfl,g1,g2,g3⟩
    unfold ri
    dsimp only
    by_cases hi:i<ms.length∧i≤14
    ·rw[if_pos (by simp;omega)]
     simp only[Option.bind_some]
     rw[if_pos (by simp;omega)]
     have hx:=List.getElem?_eq_getElem hi.1
     obtain⟨b,hb,hb2⟩:=W7 ms[i].bL
     simp only[bz hx,Option.bind_some,hb,de (show i<4611686018427387904 by omega)]
     cases b with
     | false=>exact .inr ⟨_,rfl,rfl⟩
     | true =>
      refine .inl ⟨_,rfl,⟨i+1,rfl,by omega,by omega,fun j m hj hm =>?_⟩,by omega⟩
      by_cases hji:j=i
      ·subst hji;rw[hx]at hm;cases hm;exact hb2.1 rfl
      ·exact g3 j m (by omega) hm
    ·refine .inr ⟨.inl (),?_,fun hle m hm =>?_⟩
     ·by_cases hj:i<ms.length
      ·rw[if_pos (by simp;omega)]
       simp only[Option.bind_some]
       rw[if_neg (by simp;omega)]
      ·rw[if_neg (by simp;omega)]
       simp
     ·obtain⟨j,hj,rfl⟩:=List.getElem_of_mem hm
      exact g3 j _ (by omega) (List.getElem?_eq_getElem hj))
  dsimp only
  rw[hr']
  simp only[Option.bind_some]
  cases r' with
  | inr b=>subst hp';exact⟨_,rfl,fun h=>by cases h⟩
  | inl u =>
   dsimp only
   by_cases q1:(ops.length:Int)≤14
   ·rw[if_pos (by simp;omega)]
    refine⟨_,rfl,fun h =>?_⟩
    have q2:(ms.length:Int)≤14:=by simpa using h
    exact⟨by omega,by omega,hp' (by omega)⟩
   ·rw[if_neg (by simp;omega)]
    exact⟨_,rfl,fun h=>by cases h⟩
def QP:List ak:=[⟨⟨#[97]⟩,30,7,-1,-1⟩,⟨⟨#[98]⟩,20,8,-1,-1⟩,⟨⟨#[99]⟩,10,9,-1,-1⟩,⟨⟨#[]⟩,50,15,0,1⟩,⟨⟨#[]⟩,60,24,3,2⟩]
theorem RW:gV ⟨[]⟩ [ByteArray.mk #[97],ByteArray.mk #[98],ByteArray.mk #[99]] [30,20,10] [7,8,9]=some (⟨QP⟩,4,[0,1,2],0):=by kernel_rfl
def LD (n:Int):ba:=⟨⟨1,[n]⟩,⟨1,[1]⟩⟩
theorem BM:gI 19 21=some ⟨LD 19,LD 21⟩∧gI 21 22=some ⟨LD 21,LD 22⟩:=⟨by kernel_rfl,by kernel_rfl⟩
def YW (n:Int):List aC:=[⟨1,[4,3,1],⟨#[98]⟩,n,8⟩]
theorem Je:dq ⟨QP⟩=some true:=by kernel_rfl
theorem Jd {asked:List Int} {ops:List aC} {ms:List aG} {b:Bool} {out:List bn} (h1:aF ms=some false) (h2:asked.length≤10) (h3:b=decide (¬asked.Nodup)) (h4:b=false→a8 (dY ⟨QP⟩ 4 60 24 asked ops ms) (0,[])=some out):cY ⟨QP⟩ 4 60 24 asked ops ms=some (if b then ([],5) else (out,0)):=by
 unfold cY
 rw[Je]
 simp only[Option.bind_some,Bool.not_true,Bool.false_eq_true,if_false]
 rw[if_neg (by decide)]
 simp only[Option.bind_some]
 rw[if_neg (by decide),h1]
 simp only[Option.bind_some,Bool.false_eq_true,if_false]
 rw[yH (by omega),← h3]
 simp only[Option.bind_some]
 cases b with
 | true=>rfl
 | false =>
  simp only[Bool.false_eq_true,if_false]
  rw[h4 rfl]
  rfl
theorem As {asked:List Int} {n:Int} {ms:List aG} {out want:List bn} (h1:aF ms=some false) (h2:asked.length≤10) (h3:asked.Nodup) (h4:a8 (dY ⟨QP⟩ 4 60 24 asked (YW n) ms) (0,[])=some out) (h5:out=want) (h6:out.length<10):jq ⟨QP⟩ asked n ms want=some true:=by
 unfold jq
 have:=Jd (b:=false) h1 h2 (by simp[h3]) (fun _=>h4)
 unfold YW at this
 rw[this]
 simp only[Bool.false_eq_true,if_false,Option.bind_some,beq_self_eq_true,if_true]
 rw[HL (by omega)]
 simp[h5]
theorem S7:lr=some true:=by
 have hsd:dm QP:=by
  obtain⟨b,hb,hs⟩:=T.kr ⟨QP⟩
  rw[Je]at hb
  cases hb
  exact hs.1 rfl
 have wf20:WS [2,0]:=fun x hx=>by simp at hx;omega
 have hs:(TV [2,0]).size≤5000:=TW wf20 (by simp)
 have hL:=Ub hsd (by decide) (t:=TV [2,0]) (by omega) (b:=5) (by omega)
 have hsd2:dm (QP++[ak.mk (TV [2,0]) 0 5 (-1) (-1)]):=Ld hsd (by decide) ⟨rfl,rfl,by simp only;omega,⟨by simp,by simp⟩,⟨by simp,by simp⟩⟩
 have hT:tp [[2,0]] 3 2=[2,0]:=by decide
 have hO:kb ⟨QP++[ak.mk (TV [2,0]) 0 5 (-1) (-1)]⟩ [5] [[2,0]] [5] 3 2=some ([2,0],0):=by
  rw[T.Ud (by simp) (fun r hr=>by simp at hr;subst hr;exact⟨by simp,wf20⟩) (by simp)]
  unfold SJ
  rw[if_pos (U4 (by omega) (by simp) (YL (by omega))),if_neg (by simp),if_neg (by simp),if_pos]
  ·rw[← hT];rfl
  ·intro i x hx
   match i with
   | 0 =>
    simp at hx;subst hx
    exact⟨hsd2,_,rfl,rfl,rfl,rfl⟩
   | i+1=>simp at hx
 have hD:iN ⟨QP++[ak.mk (TV [2,0]) 0 5 (-1) (-1)]⟩ [5] [[2,0]] [5] [0,1,2] 2=some ([2,0],0):=by
  unfold iN
  rw[show (([0,1,2]:List Int).length:Int)=3 by rfl,hO]
  simp only[Option.bind_some]
  rw[if_neg (by decide),yH (by decide)]
  simp only[Option.bind_some]
  rw[if_neg (by decide),show nF [2,0] 3=some ([2,0],0) by kernel_rfl]
  simp only[Option.bind_some]
  rw[show a8 (nK [0,1,2] ([2,0],0)) (0,[])=some [2,0] by kernel_rfl]
  rfl
 have c1:aF [⟨1,⟨LD 19,LD 21⟩⟩]=some false:=by kernel_rfl
 have c2:aF []=some false:=by kernel_rfl
 have c3:aF [⟨1,⟨LD 19,LD 21⟩⟩,⟨1,⟨LD 21,LD 22⟩⟩]=some false:=by kernel_rfl
 have s1:=As (asked:=[1]) (n:=20) (ms:=[⟨1,⟨LD 19,LD 21⟩⟩]) (out:=[]) (want:=[]) c1 (by decide) (by decide) (by kernel_rfl) rfl (by decide)
 have s2:=As (asked:=[1,2]) (n:=20) (ms:=[]) (out:=[⟨2,0⟩]) (want:=[⟨2,0⟩]) c2 (by decide) (by decide) (by kernel_rfl) rfl (by decide)
 have s3:=As (asked:=[1]) (n:=21) (ms:=[]) (out:=[⟨1,1⟩]) (want:=[⟨1,1⟩]) c2 (by decide) (by decide) (by kernel_rfl) rfl (by decide)
 have s4:=As (asked:=[1]) (n:=20) (ms:=[⟨1,⟨LD 19,LD 21⟩⟩,⟨1,⟨LD 21,LD 22⟩⟩]) (out:=[⟨1,2⟩]) (want:=[⟨1,2⟩]) c3 (by decide) (by decide) (by kernel_rfl) rfl (by decide)
 have j1:=Jd (asked:=[1,1]) (ops:=[]) (ms:=[]) (b:=true) (out:=[]) c2 (by decide) (by decide) (fun h=>by cases h)
 have hI:fR [0,1,2] [0,1,2]=some true:=by kernel_rfl
 have hI2:fR [2,0] [2,0]=some true:=by kernel_rfl
 unfold lr
 rw[RW]
 simp only[Option.bind_some]
 rw[if_neg (by decide),if_neg (by decide),hI]
 simp only[Option.bind_some,Bool.not_true,Bool.false_eq_true,if_false]
 rw[BM.1,BM.2]
 simp only[Option.bind_some]
 rw[s1,s2,s3,s4,j1,T.NG wf20 (by simp)]
 simp only[Option.bind_some,if_true]
 rw[hL]
 simp only[Option.bind_some]
 rw[show ((QP.length:Nat):Int)=5 by rfl,hD]
 simp only[Option.bind_some]
 rw[if_pos (by decide),if_pos (by decide),if_pos (by decide),hI2]
 rfl
theorem zF {l:List ak} {x:ak} (hs:dm l) (hl:l.length<2000) (hx:iR x∨rP l x.aY x.aQ=(x,0)):dm (l++[x]):=by
 refine⟨by simp;omega,fun i hi y hy =>?_⟩
 simp only[List.length_append,List.length_cons,List.length_nil]at hi
 by_cases h:i<l.length
 ·rw[List.getElem?_append_left h]at hy
  rw[List.take_append_of_le_length (by omega)]
  exact hs.2 i h y hy
 ·have:i=l.length:=by omega
  subst this
  simp at hy
  subst hy
  rw[List.take_append_of_le_length (Nat.le_refl _),List.take_length]
  exact hx
theorem QD (x:ak):∃b,dq ⟨[x]⟩=some b∧(b=true↔iR x):=by
 obtain⟨b,hb,hs⟩:=T.kr ⟨[x]⟩
 refine⟨b,hb,hs.trans ⟨fun h =>?_,fun h=>⟨by simp,fun i hi y hy =>?_⟩⟩⟩
 ·rcases h.2 0 (by simp) x rfl with h1|h1
  ·exact h1
  ·obtain⟨u,v,hu,-⟩:=T.uk.1 h1
   have:=s8 hu
   simp at this
   omega
 ·have:i=0:=by simp at hi;omega
  subst this
  simp at hy
  subst hy
  exact .inl h
section
variable (th:Nat→ak) (L:Nat)
inductive Sub (l:List ak):Nat→List Nat→Prop
 | leaf (j:Nat) (h:l[L+j]? = some (th j)):Sub l (L+j) [j]
 | pair (i a b:Nat) (S U:List Nat) (u v x:ak) (ha:Sub l a S) (hb:Sub l b U) (h1:a<i) (h2:b<i) (hx:l[i]? = some x) (hl:x.aY=a) (hr:x.aQ=b) (hu:l[a]? = some u) (hv:l[b]? = some v) (e1:x.ay=u.ay+v.ay) (e2:x.aA=u.aA+v.aA):Sub l i (S++U)
def sf (S:List Nat):Int:=(S.map fun j=>(th j).ay).sum
def se (S:List Nat):Int:=(S.map fun j=>(th j).aA).sum
inductive dP (l:List ak):List Int→List Nat→Prop
 | nil:dP l [] []
 | cons (i:Nat) (is:List Int) (S U:List Nat) (h:Sub th L l i S) (t:dP l is U):dP l ((i:Int)::is) (S++U)
end
section
variable {th:Nat→ak} {L:Nat} {l:List ak}
theorem Tf (S U:List Nat):sf th (S++U)=sf th S+sf th U:=by simp[sf]
theorem Te (S U:List Nat):se th (S++U)=se th S+se th U:=by simp[se]
theorem Sub.mono {i:Nat} {S:List Nat} (h:Sub th L l i S) (e:List ak):Sub th L (l++e) i S:=by
 have ext:∀ {k:Nat} {x:ak},l[k]? = some x→(l++e)[k]? = some x:=fun hx=>by rw[List.getElem?_append_left (List.getElem?_eq_some_iff.1 hx).1];exact hx
 induction h with
 | leaf j h=>exact .leaf j (ext h)
 | pair i a b S U u v x ha hb h1 h2 hx hl hr hu hv e1 e2 iha ihb=>exact .pair i a b S U u v x iha ihb h1 h2 (ext hx) hl hr (ext hu) (ext hv) e1 e2
theorem Sub.val {i:Nat} {S:List Nat} (h:Sub th L l i S):∃x,l[i]? = some x∧x.ay=sf th S∧x.aA=se th S:=by
 induction h with
 | leaf j h=>exact⟨_,h,by simp[sf],by simp[se]⟩
 | pair i a b S U u v x ha hb h1 h2 hx hl hr hu hv e1 e2 iha ihb =>
  obtain⟨u',hu',q1,q2⟩:=iha
  obtain⟨v',hv',q3,q4⟩:=ihb
  rw[hu]at hu';cases hu'
  rw[hv]at hv';cases hv'
  exact⟨x,hx,by rw[e1,q1,q3,Tf],by rw[e2,q2,q4,Te]⟩
theorem dP.mono {is:List Int} {S:List Nat} (h:dP th L l is S) (e:List ak):dP th L (l++e) is S:=by
 induction h with
 | nil=>exact .nil
 | cons i is S U h t ih=>exact .cons i is S U (h.mono e) ih
theorem dP.append {is js:List Int} {S U:List Nat} (h:dP th L l is S) (k:dP th L l js U):dP th L l (is++js) (S++U):=by
 induction h with
 | nil=>exact k
 | cons i is S V h t ih=>rw[List.append_assoc];exact .cons i _ S _ h ih
theorem dP.split:∀ {is js:List Int} {R:List Nat},dP th L l (is++js) R→∃S U,R=S++U∧dP th L l is S∧dP th L l js U
 | [],js,R,h=>⟨[],R,rfl,.nil,h⟩
 | i::is,js,R,h=>by
  generalize hq:(i::is)++js=q at h
  cases h with
  | nil=>cases hq
  | cons k ks S U h t =>
   rw[List.cons_append,List.cons.injEq]at hq
   obtain⟨rfl,rfl⟩:=hq
   obtain⟨S',U',rfl,h1,h2⟩:=dP.split t
   exact⟨S++S',U',by rw[List.append_assoc],.cons k is S S' h h1,h2⟩
theorem dP.one {i:Int} {R:List Nat} (h:dP th L l [i] R):∃k:Nat,i=k∧Sub th L l k R:=by
 generalize hq:[i]=q at h
 cases h with
 | nil=>cases hq
 | cons k ks S U h t =>
  rw[List.cons.injEq]at hq
  obtain⟨rfl,rfl⟩:=hq
  generalize hz:([]:List Int)=z at t
  cases t with
  | nil=>rw[List.append_nil];exact⟨k,rfl,h⟩
  | cons=>cases hz
end
def Lm (th:Nat→ak) (R:List Nat):Prop:=R.length≤64∧∀j∈R,(0≤(th j).ay∧(th j).ay≤1099511627776)∧(0≤(th j).aA∧(th j).aA≤1099511627776)
theorem HP {f:Nat→Int} : ∀ {R:List Nat},(∀j∈R,0≤f j∧f j≤1099511627776)→0≤(R.map f).sum∧(R.map f).sum≤R.length*1099511627776
 | [],_=>by simp
 | j::R,h=>by
  have h1:=h j List.mem_cons_self
  have h2:=HP (R:=R) fun k hk=>h k (List.mem_cons_of_mem _ hk)
  simp only[List.map_cons,List.sum_cons,List.length_cons]
  omega
theorem Lm.sub {th:Nat→ak} {A B C:List Nat} (h:Lm th (A++(B++C))):(0≤sf th B∧sf th B≤70368744177664)∧(0≤se th B∧se th B≤70368744177664):=by
 have hl:=h.1
 simp only[List.length_append]at hl
 have h1:=HP (f:=fun j=>(th j).ay) (R:=B) fun j hj=>(h.2 j (by simp[hj])).1
 have h2:=HP (f:=fun j=>(th j).aA) (R:=B) fun j hj=>(h.2 j (by simp[hj])).2
 unfold sf se
 omega
theorem Qq {th:Nat→ak} {L:Nat} {l:List ak} {next rest:List Int} {a b:Int} {R:List Nat} (hs:dm l) (hl:l.length<2000) (hR:Lm th R) (hF:dP th L l (next++(a::b::rest)) R) :
  ∃x,iF l a b=some (l++[x])∧dm (l++[x])∧dP th L (l++[x]) (next++((l.length:Int)::rest)) R:=by
 obtain⟨S0,R1,rfl,f0,f1⟩:=dP.split hF
 obtain⟨S12,S3,rfl,f12,f3⟩:=dP.split (is:=[a,b]) (js:=rest) f1
 obtain⟨S1,S2,rfl,f1',f2'⟩:=dP.split (is:=[a]) (js:=[b]) f12
 obtain⟨i,rfl,s1⟩:=f1'.one
 obtain⟨j,rfl,s2⟩:=f2'.one
 obtain⟨u,hu,u1,u2⟩:=s1.val
 obtain⟨v,hv,v1,v2⟩:=s2.val
 have b1:=Lm.sub (A:=S0) (B:=S1) (C:=S2++S3) (by simpa using hR)
 have b2:=Lm.sub (A:=S0++S1) (B:=S2) (C:=S3) (by simpa using hR)
 have hi:=(List.getElem?_eq_some_iff.1 hu).1
 have hj:=(List.getElem?_eq_some_iff.1 hv).1
 have w1:IntKind.i64.wrap (u.ay+v.ay)=u.ay+v.ay:=wrap64 (by omega) (by omega)
 have w2:IntKind.i64.wrap (u.aA+v.aA)=u.aA+v.aA:=wrap64 (by omega) (by omega)
 refine⟨ak.mk ⟨#[]⟩ (u.ay+v.ay) (u.aA+v.aA) i j,?_,?_,?_⟩
 ·unfold iF zj
  rw[bz hu,bz hv]
  simp only[Option.bind_some]
  rw[pn (by simp;omega) (by decide),w1,w2]
 ·refine zF hs hl (.inr (T.uk.2 ⟨u,v,bz hu,bz hv,rfl,w1.symm,w2.symm,?_,?_⟩))
  ·simp only;omega
  ·simp only;omega
 ·have hx:(l++[ak.mk ⟨#[]⟩ (u.ay+v.ay) (u.aA+v.aA) i j])[l.length]? = some (ak.mk ⟨#[]⟩ (u.ay+v.ay) (u.aA+v.aA) i j):=by simp
  have ext:∀ {k:Nat} {x y:ak},l[k]? = some x→(l++[y])[k]? = some x:=fun hx=>by rw[List.getElem?_append_left (List.getElem?_eq_some_iff.1 hx).1];exact hx
  refine (f0.mono _).append (.cons l.length rest (S1++S2) S3 ?_ (f3.mono _))
  exact .pair l.length i j S1 S2 u v _ (s1.mono _) (s2.mono _) hi hj hx rfl rfl (ext hu) (ext hv) rfl rfl
theorem Sm {th:Nat→ak} {L:Nat} {l0:List ak} {lev:List Int} {R:List Nat} (hs:dm l0) (hR:Lm th R) (hF:dP th L l0 lev R) (hl:l0.length+lev.length≤2001) :
  ∃next l,a8 (iu lev) (0,[],l0)=some (next,l)∧∃k e,l=l0++e∧e.length=k∧next.length=k∧2*k≤lev.length∧lev.length≤2*k+1∧dm l∧dP th L l (next++lev.drop (2*k)) R:=by
 obtain⟨r,hr,hp⟩:=eV (body:=iu lev) (fun s=>∃k e,s.1=2*(k:Nat)∧s.2.2=l0++e∧e.length=k∧s.2.1.length=k∧2*k≤lev.length∧dm s.2.2∧dP th L s.2.2 (s.2.1++lev.drop (2*k)) R) (fun s=>(lev.length-s.1).toNat)
  (fun q=>∃k e,q.2=l0++e∧e.length=k∧q.1.length=k∧2*k≤lev.length∧lev.length≤2*k+1∧dm q.2∧dP th L q.2 (q.1++lev.drop (2*k)) R) (s:=(0,[],l0)) ⟨0,[],rfl,by simp,rfl,rfl,by omega,hs,by simpa using hF⟩ (by have:FU=1000000000000000000000000:=rfl;simp only;omega) (by
   rintro⟨s,next,l⟩ ⟨k,e,rfl,rfl,h1,h2,h3,h4,h5⟩
   dsimp only at h2 h4 h5 ⊢
   have hw1:IntKind.i64.wrap (2*(k:Int)+1)=((2*k+1:Nat):Int):=by rw[wrap64 (by omega) (by omega)];omega
   have hw2:IntKind.i64.wrap (2*(k:Int)+2)=((2*(k+1):Nat):Int):=by rw[wrap64 (by omega) (by omega)];omega
   have h2k:(2*(k:Int))=((2*k:Nat):Int):=by omega
   by_cases hk:2*k+1<lev.length
   ·have ha:lev[2*k]? = some (lev[2*k]'(by omega)):=List.getElem?_eq_getElem _
    have hb:lev[2*k+1]? = some (lev[2*k+1]'hk):=List.getElem?_eq_getElem _
    have hd:lev.drop (2*k)=(lev[2*k]'(by omega))::(lev[2*k+1]'hk)::lev.drop (2*(k+1)):=by
     rw[List.drop_eq_getElem_cons (by omega),List.drop_eq_getElem_cons hk]
     rfl
    rw[hd]at h5
    have hle:(l0++e).length<2000:=by simp only[List.length_append];omega
    obtain⟨x,p1,p2,p3⟩:=Qq h4 hle hR h5
    refine .inl ⟨(((2*(k+1):Nat):Int),next++[((l0++e).length:Int)],(l0++e)++[x]),?_,⟨k+1,e++[x],?_,?_,?_,?_,?_,p2,?_⟩,?_⟩
    ·simp only[iu]
     rw[hw1,if_pos (by simp;omega),h2k,bz ha]
     simp only[Option.bind_some]
     rw[bz hb]
     simp only[Option.bind_some]
     rw[p1]
     simp only[Option.bind_some]
     rw[pn (by simp;omega) (by decide)]
     simp only[Option.bind_some]
     rw[← h2k,hw2]
    ·simp only;omega
    ·simp only[List.append_assoc]
    ·simp;omega
    ·simp;omega
    ·omega
    ·simp only[List.append_assoc]at p3 ⊢
     exact p3
    ·simp only;omega
   ·refine .inr ⟨(next,l0++e),?_,k,e,rfl,h1,h2,h3,by omega,h4,h5⟩
    simp only[iu]
    rw[hw1,if_neg (by simp;omega)])
 obtain⟨next,l⟩:=r
 obtain⟨k,e,q1,q2,q3,q4,q5,q6,q7⟩:=hp
 exact⟨next,l,hr,k,e,q1,q2,q3,q4,q5,q6,q7⟩
theorem PZ {th:Nat→ak} {L:Nat} {l0:List ak} {lev:List Int} {R:List Nat} (hs:dm l0) (hR:Lm th R) (hF:dP th L l0 lev R) (hl:l0.length+lev.length≤2001) (h0:lev≠[]) :
  ∃root l,a8 fZ (lev,l0)=some ([root],l)∧(∃e,l=l0++e)∧dm l∧dP th L l [root] R:=by
 obtain⟨r,hr,hp⟩:=eV (body:=fZ) (fun s=>s.1≠[]∧(∃e,s.2=l0++e)∧dm s.2∧dP th L s.2 s.1 R∧s.2.length+s.1.length≤2001) (fun s=>s.1.length)
  (fun q=>∃root,q.1=[root]∧(∃e,q.2=l0++e)∧dm q.2∧dP th L q.2 [root] R) (s:=(lev,l0)) ⟨h0,⟨[],by simp⟩,hs,hF,hl⟩ (by have:FU=1000000000000000000000000:=rfl;simp only;omega) (by
   rintro⟨lv,l⟩ ⟨g0,⟨e,rfl⟩,g1,g2,g3⟩
   dsimp only at g0 g1 g2 g3 ⊢
   by_cases hone:lv.length>1
   ·obtain⟨next,l',h1,k,e',rfl,h3,h4,h5,h6,h7,h8⟩:=Sm g1 hR g2 g3
    have hmod:tk .i64 ((lv.length:Nat):Int) 2=some ((lv.length:Int) % 2):=T.HU (by omega) (by omega)
    by_cases hodd:lv.length % 2=1
    ·have hk:lv.length=2*k+1:=by omega
     have hlast:lv[2*k]? = some (lv[2*k]'(by omega)):=List.getElem?_eq_getElem _
     have hd:lv.drop (2*k)=[lv[2*k]'(by omega)]:=by
      rw[List.drop_eq_getElem_cons (by omega),List.drop_eq_nil_of_le (by omega)]
     rw[hd]at h8
     refine .inl ⟨(next++[lv[2*k]'(by omega)],(l0++e)++e'),?_,⟨by simp,⟨e++e',by simp⟩,h7,h8,?_⟩,?_⟩
     ·simp only[fZ]
      rw[if_pos (by simp;omega),h1]
      simp only[Option.bind_some]
      rw[hmod]
      simp only[Option.bind_some]
      rw[if_pos (by simp;omega),show IntKind.i64.wrap ((lv.length:Int)-1)=((2*k:Nat):Int) by rw[wrap64 (by omega) (by omega)];omega,bz hlast]
      simp only[Option.bind_some]
      rw[pn (by simp;omega) (by decide)]
      rfl
     ·simp only[List.length_append,List.length_cons,List.length_nil]at g3 ⊢;omega
     ·simp only[List.length_append,List.length_cons,List.length_nil];omega
    ·have hk:lv.length=2*k:=by omega
     have hd:lv.drop (2*k)=[]:=List.drop_eq_nil_of_le (by omega)
     rw[hd,List.append_nil]at h8
     refine .inl ⟨(next,(l0++e)++e'),?_,⟨?_,⟨e++e',by simp⟩,h7,h8,?_⟩,?_⟩
     ·simp only[fZ]
      rw[if_pos (by simp;omega),h1]
      simp only[Option.bind_some]
      rw[hmod]
      simp only[Option.bind_some]
      rw[if_neg (by simp;omega)]
     ·intro hnil;simp only at hnil;rw[hnil]at h4;simp at h4;omega
     ·simp only[List.length_append]at g3 ⊢;omega
     ·simp only;omega
   ·obtain⟨root,hroot⟩:∃root,lv=[root]:=by
     match lv,g0,hone with
     | [x],_,_=>exact⟨x,rfl⟩
     | x::y::z,_,h=>simp at h
    subst hroot
    refine .inr ⟨([root],l0++e),?_,root,rfl,⟨e,rfl⟩,g1,g2⟩
    simp only[fZ]
    rw[if_neg (by simp)])
 obtain⟨a,l⟩:=r
 obtain⟨root,rfl,q2,q3,q4⟩:=hp
 exact⟨root,l,hr,q2,q3,q4⟩
def ru (ts:List ByteArray) (vs bs:List Int) (j:Nat):ak:=ak.mk (ts.getD j ⟨#[]⟩) (vs.getD j 0) (bs.getD j 0) (-1) (-1)
def OD (L n:Nat):List Int:=(List.range n).map fun (j:Nat)=>((L+j:Nat):Int)
structure uR (v:List ak) (ts:List ByteArray) (vs bs:List Int) (w:List ak) (root:Int) (leaves:List Int):Prop where
 pos:0<ts.length
 le:ts.length≤64
 vlen:vs.length=ts.length
 blen:bs.length=ts.length
 leaf:∀j,j<ts.length→iR (ru ts vs bs j)
 sound:dm w
 at_:∀j,j<ts.length→w[v.length+j]? = some (ru ts vs bs j)
 leaves:leaves=OD v.length ts.length
 root:∃i:Nat,root=i∧Sub (ru ts vs bs) v.length w i (List.range ts.length)
theorem wY (L n:Nat):(OD L n).length=n:=by simp[OD]
theorem Sn {L n j:Nat} (h:j<n):(OD L n)[j]? = some ((L+j:Nat):Int):=by simp[OD,h]
theorem J4 (L n:Nat):OD L (n+1)=OD L n++[((L+n:Nat):Int)]:=by simp[OD,List.range_succ]
theorem Ce {th:Nat→ak} {L:Nat} {l:List ak} : ∀n,(∀j,j<n→l[L+j]? = some (th j))→dP th L l (OD L n) (List.range n)
 | 0,_ =>.nil
 | n+1,h=>by
  rw[J4,List.range_succ]
  exact (Ce n fun j hj=>h j (by omega)).append (.cons (L+n) [] [n] [] (.leaf n (h n (by omega))) .nil)
theorem JY {v:List ak} {ts:List ByteArray} {vs bs:List Int} (h1:vs.length=ts.length) (h2:bs.length=ts.length) (h3:ts.length≤64) (h4:v.length≤2000) :
  a8 (ir ts vs bs) (0,[],v)=some (OD v.length ts.length,v++(List.range ts.length).map (ru ts vs bs)):=by
 have hloop:=Gh (body:=ir ts vs bs) ts.length (fun i=>((i:Int),OD v.length i,v++(List.range i).map (ru ts vs bs))) (r:=(OD v.length ts.length,v++(List.range ts.length).map (ru ts vs bs))) (by omega) (fun i hi=>by
  have g1:ts[i]? = some ts[i]:=List.getElem?_eq_getElem hi
  have g2:vs[i]? = some (vs[i]'(by omega)):=List.getElem?_eq_getElem _
  have g3:bs[i]? = some (bs[i]'(by omega)):=List.getElem?_eq_getElem _
  have ht:ru ts vs bs i=ak.mk ts[i] (vs[i]'(by omega)) (bs[i]'(by omega)) (-1) (-1):=by simp[ru,List.getD,g1,g2,g3]
  simp only[ir]
  rw[if_pos (by simp;omega),bz g1,bz g2,bz g3]
  simp only[Option.bind_some,kd,lE,H6]
  rw[pn (by simp;omega) (by decide)]
  simp only[Option.bind_some]
  rw[pn (by rw[wY];simp;omega) (by decide)]
  simp only[Option.bind_some]
  rw[J4,List.range_succ,List.map_append,de (by omega)]
  simp[ht]) (by
  simp only[ir]
  rw[if_neg (by simp)])
 have e0:((((0:Nat):Int),OD v.length 0,v++(List.range 0).map (ru ts vs bs)):Int×List Int×List ak)=(0,[],v):=by simp[OD]
 rw[← e0]
 exact hloop
open Classical in
theorem QR {v:List ak} {ts:List ByteArray} {vs bs:List Int} (ht:ts.length*16≤140737488351232):∃r,gV ⟨v⟩ ts vs bs=some r∧(r.2.2.2=0→uR v ts vs bs r.1.ag r.2.1 r.2.2.1):=by
 unfold gV
 obtain⟨b,hb,hs⟩:=T.kr ⟨v⟩
 rw[hb]
 simp only[Option.bind_some]
 have bad:∀(q:av×Int×List Int×Int),q.2.2.2≠0→∃r,some q=some r∧(r.2.2.2=0→uR v ts vs bs r.1.ag r.2.1 r.2.2.1):=fun q hq=>⟨q,rfl,fun h=>absurd h hq⟩
 cases b with
 | false=>exact bad _ (by decide)
 | true =>
 have hsd:dm v:=hs.1 rfl
 simp only[Bool.not_true,Bool.false_eq_true,if_false]
 by_cases q0:ts.length=0
 ·rw[if_pos (by simp[q0])];exact bad _ (by decide)
 rw[if_neg (by simp;exact fun h=>q0 (by rw[h];rfl))]
 by_cases q1:vs.length=ts.length
 ·rw[if_neg (by simp[q1])]
  simp only[Option.bind_some]
  by_cases q2:bs.length=ts.length
  ·rw[if_neg (by simp[q2])]
   have hL2:=WY ts (body:=jy ts vs bs) (fun i _=>iR (ru ts vs bs i)) (av.mk [],-1,[],1) (by omega) (fun i x hx=>by
    have hi:=(List.getElem?_eq_some_iff.1 hx).1
    have g2:vs[i]? = some (vs[i]'(by omega)):=List.getElem?_eq_getElem _
    have g3:bs[i]? = some (bs[i]'(by omega)):=List.getElem?_eq_getElem _
    have hth:ru ts vs bs i=ak.mk x (vs[i]'(by omega)) (bs[i]'(by omega)) (-1) (-1):=by simp[ru,List.getD,hx,g2,g3]
    obtain⟨c,hc,hc2⟩:=QD (ak.mk x (vs[i]'(by omega)) (bs[i]'(by omega)) (-1) (-1))
    simp only[jy]
    rw[if_pos (by simp;omega),bz hx,bz g2,bz g3]
    simp only[Option.bind_some,kd]
    rw[hc,hth]
    simp only[Option.bind_some]
    cases c with
    | true=>rw[if_neg (by simp),if_pos (hc2.1 rfl),de (by omega)]
    | false=>rw[if_pos (by simp),if_neg (fun h=>absurd (hc2.2 h) (by simp))]) (by simp only[jy];rw[if_neg (by simp)])
   rcases hL2 with⟨hall,he⟩|⟨hall,he⟩
   ·rw[he]
    simp only[Option.bind_some]
    have hv2:=hsd.1
    have hwr:IntKind.i64.wrap (IntKind.i64.wrap ((v.length:Int)+IntKind.i64.wrap (2*(ts.length:Int)))-1)=(v.length:Int)+2*ts.length-1:=by
     rw[wrap64 (x:=2*(ts.length:Int)) (by omega) (by omega),wrap64 (x:=(v.length:Int)+2*(ts.length:Int)) (by omega) (by omega),wrap64 (by omega) (by omega)]
    by_cases q3:(ts.length:Int)>64
    ·rw[if_pos (by simpa using q3)];exact bad _ (by decide)
    ·rw[if_neg (by simpa using q3)]
     simp only[Option.bind_some]
     rw[show (({ ag:=v } : av).ag.length:Int)=v.length from rfl,hwr]
     by_cases q4:(v.length:Int)+2*ts.length-1>2000
     ·rw[if_pos (by simpa using q4)];exact bad _ (by decide)
     ·rw[if_neg (by simpa using q4)]
      have hcl:dA v=some v:=by
       unfold dA
       rw[pn (by simp;omega) (by decide)]
       rfl
      rw[hcl]
      simp only[Option.bind_some]
      rw[JY q1 q2 (by omega) hv2]
      simp only[Option.bind_some]
      rw[Oa (by rw[wY];omega)]
      simp only[Option.bind_some]
      have hat:∀j,j<ts.length→(v++(List.range ts.length).map (ru ts vs bs))[v.length+j]? = some (ru ts vs bs j):=by
       intro j hj
       rw[List.getElem?_append_right (by omega),Nat.add_sub_cancel_left]
       simp[hj]
      have hleaf:∀j,j<ts.length→iR (ru ts vs bs j):=fun j hj=>hall j ts[j] (List.getElem?_eq_getElem hj)
      have hsd1:∀n,n≤ts.length→dm (v++(List.range n).map (ru ts vs bs)):=by
       intro n
       induction n with
       | zero=>intro _;simpa using hsd
       | succ n ih =>
        intro hn
        rw[List.range_succ,List.map_append,← List.append_assoc]
        exact zF (ih (by omega)) (by simp;omega) (.inl (hleaf n (by omega)))
      have hR:Lm (ru ts vs bs) (List.range ts.length):=⟨by simp;omega,fun j hj=>by
       have:=hleaf j (List.mem_range.1 hj)
       exact⟨this.2.2.2.1,this.2.2.2.2⟩⟩
      obtain⟨root,w,r1,⟨e,r2⟩,r3,r4⟩:=PZ (L:=v.length) (hsd1 ts.length (Nat.le_refl _)) hR (Ce ts.length hat) (by rw[wY,List.length_append,List.length_map,List.length_range];omega) (by intro h;have:=congrArg List.length h;rw[wY]at this;exact q0 this)
      rw[r1]
      simp only[Option.bind_some]
      rw[show P.idx [root] 0=some root from rfl]
      simp only[Option.bind_some]
      obtain⟨i,hi,hsub⟩:=r4.one
      refine⟨_,rfl,fun _=>⟨by omega,by omega,q1,q2,hleaf,r3,fun j hj =>?_,rfl,i,hi,hsub⟩⟩
      simp only
      rw[r2,List.getElem?_append_left (by simp;omega)]
      exact hat j hj
   ·rw[he]
    simp only[Option.bind_some]
    exact bad _ (by decide)
  ·rw[if_pos (by simp;omega)];exact bad _ (by decide)
 ·rw[if_pos (by simp;omega)];exact bad _ (by decide)
inductive Nr (l:List ak) (leaf:Nat):Nat→Prop
 | here:Nr l leaf leaf
 | up (i c:Nat) (x:ak) (hx:l[i]? = some x) (hp:x.aY ≠ -1) (hc:x.aY=c∨x.aQ=c) (hi:leaf<i) (h:Nr l leaf c):Nr l leaf i
theorem Nr.le {l:List ak} {leaf i:Nat} (h:Nr l leaf i):leaf≤i:=by
 cases h with
 | here=>exact Nat.le_refl _
 | up c x hx hp hc hi h=>omega
theorem Sub.nr {th:Nat→ak} {L:Nat} {l:List ak} {i:Nat} {S:List Nat} (h:Sub th L l i S):∀j∈S,Nr l (L+j) i:=by
 induction h with
 | leaf j h=>intro k hk;rw[List.mem_singleton.1 hk];exact .here
 | pair i a b S U u v x ha hb h1 h2 hx hl hr hu hv e1 e2 iha ihb =>
  intro j hj
  rcases List.mem_append.1 hj with hj|hj
  ·have:=iha j hj
   exact .up i a x hx (by omega) (.inl hl) (by have:=this.le;omega) this
  ·have:=ihb j hj
   exact .up i b x hx (by omega) (.inr hr) (by have:=this.le;omega) this
theorem CX {l:List ak} (hs:dm l) {i:Nat} {x:ak} (hx:l[i]? = some x) (hL:x.aY ≠ -1):(0≤x.aY∧x.aY<i)∧(0≤x.aQ∧x.aQ<i):=by
 have hi:=(List.getElem?_eq_some_iff.1 hx).1
 rcases hs.2 i hi x hx with h|h
 ·exact absurd h.1 hL
 ·obtain⟨u,v,hu,hv,-⟩:=T.uk.1 h
  have h1:=s8 hu
  have h2:=s8 hv
  rw[List.length_take]at h1 h2
  omega
theorem SA {l:List ak} {leaf i:Nat} {x:ak} (hx:l[i]? = some x) (hi:leaf<i) {a b:Nat} (ha:x.aY=a) (hb:x.aQ=b):Nr l leaf i↔Nr l leaf a∨Nr l leaf b:=by
 constructor
 ·intro h
  cases h with
  | here=>omega
  | up _ c y hy hp hc hi h =>
   rw[hx]at hy;cases hy
   rcases hc with hc|hc
   ·have:a=c:=by omega
    subst this;exact .inl h
   ·have:b=c:=by omega
    subst this;exact .inr h
 ·rintro (h|h)
  ·exact .up i a x hx (by omega) (.inl ha) hi h
  ·exact .up i b x hx (by omega) (.inr hb) hi h
theorem Ou {l:List Bool} {i k:Nat} {b:Bool} (hi:i<l.length):(l.set i b)[k]? = if k=i then some b else l[k]?:=by
 by_cases h:k=i
 ·subst h;rw[if_pos rfl];simp[hi]
 ·rw[if_neg h,List.getElem?_set_ne (by omega)]
theorem SQ {l:List ak} (hs:dm l) {leaf:Nat} (hleaf:leaf<l.length):∃out,jS ⟨l⟩ (leaf:Int)=some out∧out.length=l.length∧∀k,k<l.length→(out[k]? = some true↔Nr l leaf k):=by
 have hl:=hs.1
 unfold jS
 rw[show (({ ag:=l } : av).ag.length:Int)=(l.length:Int) from rfl,T.VL (by omega) (by decide)]
 simp only[Option.bind_some]
 rw[bz (show (List.replicate l.length false)[leaf]? = some false by simp[hleaf])]
 simp only[Option.bind_some,Int.toNat_natCast]
 rw[de (by omega)]
 obtain⟨r,hr,hp⟩:=eV (body:=eN ⟨l⟩) (fun s=>∃i:Nat,s.1=i∧leaf<i∧i≤l.length∧s.2.length=l.length∧(∀k,k<i→(s.2[k]? = some true↔Nr l leaf k))) (fun s=>(l.length-s.1).toNat)
  (fun q=>q.length=l.length∧∀k,k<l.length→(q[k]? = some true↔Nr l leaf k)) (s:=(((leaf+1:Nat):Int),(List.replicate l.length false).set leaf true)) ⟨leaf+1,rfl,by omega,by omega,by simp,fun k hk=>by
   rw[Ou (by simpa using hleaf)]
   by_cases h:k=leaf
   ·subst h;simp[Nr.here]
   ·rw[if_neg h]
    have:¬Nr l leaf k:=fun hn=>by have:=hn.le;omega
    simp only[List.getElem?_replicate,this,iff_false]
    split<;>simp⟩ (by have:FU=1000000000000000000000000:=rfl;simp only;omega) (by
   rintro⟨s,out⟩ ⟨i,rfl,h1,h2,h3,h4⟩
   dsimp only at h3 h4 ⊢
   by_cases hi:i<l.length
   ·have hx:l[i]? = some l[i]:=List.getElem?_eq_getElem hi
    have ho:out[i]? = some (out[i]'(by omega)):=List.getElem?_eq_getElem _
    have hnew:∀b:Bool,(b=true↔Nr l leaf i)→∀k,k<i+1→((out.set i b)[k]? = some true↔Nr l leaf k):=by
     intro b hb k hk
     rw[Ou (by omega)]
     by_cases hki:k=i
     ·subst hki;rw[if_pos rfl];simp[hb]
     ·rw[if_neg hki];exact h4 k (by omega)
    have go:∀b:Bool,(b=true↔Nr l leaf i)→eN ⟨l⟩ ((i:Int),out)=some (.inl (((i+1:Nat):Int),out.set i b))→(∃s',eN ⟨l⟩ ((i:Int),out)=some (.inl s')∧(∃i:Nat,s'.1=i∧leaf<i∧i≤l.length∧s'.2.length=l.length∧(∀k,k<i→(s'.2[k]? = some true↔Nr l leaf k)))∧(l.length-s'.1:Int).toNat<(l.length-(i:Int)).toNat):=fun b hb he =>
     ⟨_,he,⟨i+1,rfl,by omega,by omega,by simp[h3],hnew b hb⟩,by simp only;omega⟩
    refine .inl ?_
    by_cases hL:l[i].aY = -1
    ·refine go false ⟨fun h=>(by cases h),fun h =>?_⟩ ?_
     ·cases h with
      | here=>omega
      | up _ c y hy hp hc hi h=>rw[hx]at hy;cases hy;exact absurd hL hp
     ·simp only[eN]
      rw[if_pos (by simp;omega),bz hx]
      simp only[Option.bind_some,fj]
      rw[if_neg (by simp[hL]),bz ho]
      simp only[Option.bind_some,Int.toNat_natCast]
      rw[de (by omega)]
    ·obtain⟨⟨a0,a1⟩,b0,b1⟩:=CX hs hx hL
     obtain⟨a,ha⟩:∃a:Nat,l[i].aY=a:=⟨l[i].aY.toNat,by omega⟩
     obtain⟨b,hb⟩:∃b:Nat,l[i].aQ=b:=⟨l[i].aQ.toNat,by omega⟩
     have hoa:out[a]? = some (out[a]'(by omega)):=List.getElem?_eq_getElem _
     have hob:out[b]? = some (out[b]'(by omega)):=List.getElem?_eq_getElem _
     have na:=h4 a (by omega)
     have nb:=h4 b (by omega)
     rw[hoa,Option.some.injEq]at na
     rw[hob,Option.some.injEq]at nb
     have hiff:=SA hx h1 ha hb
     by_cases hva:out[a]'(by omega)=true
     ·refine go true ⟨fun _=>hiff.2 (.inl (na.1 hva)),fun _=>rfl⟩ ?_
      simp only[eN]
      rw[if_pos (by simp;omega),bz hx]
      simp only[Option.bind_some,fj]
      rw[if_pos (by simp[hL]),ha,bz hoa]
      simp only[Option.bind_some]
      rw[if_pos hva,bz ho]
      simp only[Option.bind_some,Int.toNat_natCast]
      rw[de (by omega)]
     ·refine go (out[b]'(by omega)) ⟨fun h=>hiff.2 (.inr (nb.1 h)),fun h=>(hiff.1 h).elim (fun h=>absurd (na.2 h) hva) nb.2⟩ ?_
      simp only[eN]
      rw[if_pos (by simp;omega),bz hx]
      simp only[Option.bind_some,fj]
      rw[if_pos (by simp[hL]),ha,bz hoa]
      simp only[Option.bind_some]
      rw[if_neg hva,hb,bz hob]
      simp only[Option.bind_some]
      rw[bz ho]
      simp only[Option.bind_some,Int.toNat_natCast]
      rw[de (by omega)]
   ·refine .inr ⟨out,?_,h3,fun k hk=>h4 k (by omega)⟩
    simp only[eN]
    rw[if_neg (by simp;omega)])
 rw[hr]
 exact⟨r,rfl,hp⟩
theorem QE {l:List ak} {path:List Int} {b:Int} {i:Nat} {c:Int} (h:path[i]? = some c) (hs:vq l path i c):vq l (path++[b]) i c:=by
 obtain⟨h1,h2⟩:=hs
 refine⟨h1,h2.imp_right ?_⟩
 rintro⟨p,x,g1,g2⟩
 exact⟨p,x,by rw[List.getElem?_append_left (List.getElem?_eq_some_iff.1 g1).1];exact g1,g2⟩
end Go.Proofs.YtpkahnkoecbndaaGreatDoor.P
