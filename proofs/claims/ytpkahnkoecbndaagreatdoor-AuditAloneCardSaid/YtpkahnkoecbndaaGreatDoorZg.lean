/- Part of a proof, made small by a program (wip/mini.py). -/
import Derived.Test.YtpkahnkoecbndaaGreatDoorZf
namespace Go.Proofs.YtpkahnkoecbndaaGreatDoor.P
open Go.RowKit T
set_option linter.unusedSimpArgs false
set_option linter.unusedVariables false
open Classical in
theorem P6 (v:aE) (root total blind:Int) (asked:List Int) (ops:List aG) (ms:List az) (h0:v.ah.length*48≤140737488351232) (h4:asked.length*8≤140737488351232) (h5:ops.length*64≤140737488351232∧∀ x∈ops,x.eG.length*8≤140737488351232∧(Lit.int .i64 x.bd).wf=true) (h6:ms.length*136≤140737488351232) :
  eQ v root total blind asked ops ms=some true:=by
 obtain ⟨l⟩:=v
 unfold eQ
 rw [R3]
 simp only [Option.bind_some]
 obtain ⟨b,hb,-⟩:=T.P8 ⟨l⟩ 40 (by simp only at h0 ⊢; omega)
 rw [hb]
 simp only [Option.bind_some]
 cases b with
 | false=>rfl
 | true =>
  simp only [Bool.not_true,Bool.false_eq_true,if_false]
  by_cases ha:(asked.length:Int) > 12
  ·rw [if_pos (by simpa using ha)]; rfl
  ·rw [if_neg (by simpa using ha)]
   obtain ⟨c,hc,hc2⟩:=VU (ops:=ops) (ms:=ms) (by omega) (by omega)
   rw [hc]
   simp only [Option.bind_some]
   cases c with
   | false=>rfl
   | true =>
    obtain ⟨f1,f2,f3⟩:=hc2 rfl
    simp only [Bool.not_true,Bool.false_eq_true,if_false]
    have hops:Ob ops:=⟨by omega,fun x hx=>by
     have:=h5.2 x hx
     have hv:=T.SQ this.2
     exact ⟨by omega,by omega,by omega⟩⟩
    have hms:PC ms:=⟨by omega,f3⟩
    rw [Jn hops hms (by omega)]
    simp only [Option.bind_some]
    unfold GM
    by_cases q1:iJ l∧0≤root∧root<l.length
    ·rw [if_pos q1]
     by_cases q2:(ms.all fun m=>sR m.bD)=true
     ·rw [if_pos q2]
      by_cases q3:asked.Nodup
      ·rw [if_pos q3]
       simp only
       rw [if_neg (by decide)]
       have hstep : ∀ i (hi:i<asked.length),dV ⟨l⟩ root total blind asked ops ms ((i:Int),(asked.take i).filterMap (ik l root total blind ops ms))=some (.inl (((i+1:Nat):Int),(asked.take (i+1)).filterMap (ik l root total blind ops ms))):=by
        intro i hi
        have hx:asked[i]? = some asked[i]:=List.getElem?_eq_getElem hi
        simp only [dV]
        rw [if_pos (by simp; omega),RJ (by omega) hx]
        simp only [Option.bind_some]
        rw [fi hx]
        simp only [Option.bind_some]
        rw [Qo (by omega)]
        simp only [Option.bind_some]
        have hops':Ob (ops.find? fun x=>x.bn==asked[i]).toList:=by
         cases hf:ops.find? fun x=>x.bn==asked[i] with
         | none=>exact ⟨by simp,fun x hx=>by simp at hx⟩
         | some y=>exact ⟨by simp,fun x hx=>by simp at hx; subst hx; exact hops.2 _ (List.mem_of_find?_eq_some hf)⟩
        have hms':PC (ms.filter fun m=>m.bn==asked[i]).reverse:=⟨by
         have:=List.length_filter_le (fun m:az=>m.bn==asked[i]) ms
         rw [List.length_reverse]; omega,fun m hm=>f3 m (List.mem_filter.1 (List.mem_reverse.1 hm)).1⟩
        rw [Jn hops' hms' (by simp)]
        simp only [Option.bind_some]
        unfold GM
        have q2':((ms.filter fun m=>m.bn==asked[i]).reverse.all fun m=>sR m.bD)=true:=by
         rw [List.all_eq_true] at q2 ⊢
         exact fun m hm=>q2 m (List.mem_filter.1 (List.mem_reverse.1 hm)).1
        rw [if_pos q1,if_pos q2',if_pos (show [asked[i]].Nodup by simp)]
        have hone:[asked[i]].filterMap (ik l root total blind (ops.find? fun x=>x.bn==asked[i]).toList (ms.filter fun m=>m.bn==asked[i]).reverse)=(ik l root total blind ops ms asked[i]).toList:=by
         rw [List.filterMap_cons,Pd]
         cases ik l root total blind ops ms asked[i] <;> rfl
        rw [hone]
        simp only
        rw [if_neg (by decide),if_neg (by cases ik l root total blind ops ms asked[i] <;> simp),Gf (by
         have h1:=List.length_filterMap_le (ik l root total blind ops ms) (asked.take i)
         have h2:(asked.take i).length≤i:=by simp; omega
         have h3:(ik l root total blind ops ms asked[i]).toList.length≤1:=by cases ik l root total blind ops ms asked[i] <;> simp
         omega) (by decide)]
        simp only [Option.bind_some]
        rw [rU _ hx,eR (by omega)]
       have hloop:=F3 (body:=dV ⟨l⟩ root total blind asked ops ms) asked.length (fun i=>((i:Int),(asked.take i).filterMap (ik l root total blind ops ms))) (r := .inl (asked.filterMap (ik l root total blind ops ms))) (by omega) hstep (by
        simp only [dV]
        rw [if_neg (by simp),List.take_length])
       have hloop':a8 (dV ⟨l⟩ root total blind asked ops ms) (0,[])=some (.inl (asked.filterMap (ik l root total blind ops ms))):=hloop
       rw [hloop']
       simp only [Option.bind_some,if_true]
       rw [RX (by have:=List.length_filterMap_le (ik l root total blind ops ms) asked; omega)]
       simp
      ·rw [if_neg q3]; simp
     ·rw [if_neg q2]; simp
    ·rw [if_neg q1]; simp
end Go.Proofs.YtpkahnkoecbndaaGreatDoor.P
