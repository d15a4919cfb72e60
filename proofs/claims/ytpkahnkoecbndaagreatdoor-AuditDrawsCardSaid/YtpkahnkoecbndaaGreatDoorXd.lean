/- Part of a proof, made small by a program (wip/mini.py). -/
import Derived.Test.YtpkahnkoecbndaaGreatDoorXc
namespace Go.Proofs.YtpkahnkoecbndaaGreatDoor.Am
open Go.RowKit Go.Proofs.YtpkahnkoecbndaaGreatDoor.P Go.Shelf
set_option linter.unusedSimpArgs false
set_option linter.unusedVariables false
set_option maxHeartbeats 4000000 in
set_option maxRecDepth 100000 in
theorem UT (b o c:Nat) (l:List Int) (w:World) (hb:b<w.heap.size) (hc:∀j,j<l.length→w.cell? ⟨b,o+j,none⟩=some (.int .i64 (l.getD j 0))) (hall:∀x∈l,-9223372036854775808≤x∧x≤9223372036854775807) (hreach:l.length*8≤140737488351232) (hsize:(lB l).length≤140737488355328)
  (ht:∀b,p8=some b→∃ty fr,w.heap[b]? = some (.cells lV ty fr)) (htl:∀b,p8=some b→b<w.heap.size) :
  Calls Tryz.prog 93 #[.slice (some ⟨b,o,none⟩) l.length c,.func (.func 94) #[] #[]] w fun e w'=>e=.returned (.string ⟨(lB l).toArray⟩)∧Below w.heap.size w w':=by
 have htk:∀w',Below w.heap.size w w'→∀b,p8=some b→∃ty fr,w'.heap[b]? = some (.cells lV ty fr):=fun w' hbw b hb=>by
  obtain⟨ty,fr,h⟩:=ht b hb
  exact⟨ty,fr,(hbw.block b (htl b hb)).trans h⟩
 have hn0 : -9223372036854775808≤(l.length:Int):=by omega
 have hn1:(l.length:Int)≤9223372036854775807:=by omega
 have hB0:Below w.heap.size w (w.alloc (.cells #[.pointer none,.slice none 0 0] 150)):=(Below.refl _ w).alloc (Nat.le_refl _) _
 have hsz:=ur l.length hn0 hn1
 have e1:A0 l.length++⟨#[91]⟩=⟨(Lib.itoa l.length++[91]).toArray⟩:=zA (Lib.itoa l.length) [91]
 have hnl:(lB l).length=(Lib.itoa l.length).length+1+(eg l).length+1:=by simp[lB];omega
 go_enter Tryz.func93,Tryz.ntmps93
 have hI0:Lib.IsBuilder 150 5 w.heap.size w.heap.size (Lib.byteCells []) (w.alloc (.cells #[.pointer none,.slice none 0 0] 150)):=Mr w
 go_wp2_with (first
  | (go_at_call 121;refine (PZ l.length _ hn0 hn1 (htk _ hB0)).mono ?_;rintro e w1 ⟨rfl,hb1⟩;have hI1:=Ea hI0 hb1;have hz1:w.heap.size≤w1.heap.size:=Nat.le_trans hB0.size hb1.size)
  | (go_at_call 120;refine (Lt w.heap.size w.heap.size [] (Lib.itoa l.length++[91]) _ hI1 (by simp only[List.length_nil,List.length_append,List.length_cons];omega) hz1).mono ?_;rintro e w2 ⟨v2,rfl,hB2,hb2⟩))
 have hb20:Below w.heap.size w w2:=(hB0.trans (hb1.mono hB0.size)).trans hb2
 clear hI1 hI0 hB0 hb1 hb2
 go_loopw [15] (fun i wr=>∃k:Nat,k≤l.length∧i=.int .i64 k∧Lib.BuilderAt 150 5 w.heap.size w.heap.size (.pointer (some ⟨w.heap.size,0,none⟩)) (Lib.byteCells ((Lib.itoa l.length++[91])++eg (l.take k))) wr∧Below w.heap.size w wr)
  (fun i _=>l.length-(intOf i).toNat)
 case atStart=>exact⟨0,Nat.zero_le _,rfl,by simpa [eg] using hB2,hb20⟩
 case round =>
  obtain⟨k,hk,rfl,hBk,hbk⟩:=hrel
  have hcx:k<l.length→wr.cell? ⟨b,o+k,none⟩=some (.int .i64 (l.getD k 0)):=fun h=>(hbk.cell (p:=⟨b,o+k,none⟩) hb).trans (hc k h)
  by_cases hlt:k<l.length
  ·have hcx':=hcx hlt
   have hx:=hall (l.getD k 0) (by rw[List.getD_eq_getElem?_getD,List.getElem?_eq_getElem hlt];exact List.getElem_mem hlt)
   have hnk:=Sr l (k+1)
   rw[EV l hlt,List.length_append]at hnk
   have hnn:=EV l hlt
   generalize l.getD k 0=x at *
   go_wp2_with (first
    | (go_at_call 94;refine (SS x _ hx.1 hx.2 (htk _ hbk)).mono ?_;rintro e w3 ⟨rfl,hb3⟩;have hI3:=ou hBk hb3;have hz3:w.heap.size≤w3.heap.size:=Nat.le_trans hbk.size hb3.size)
    | (go_at_call 120;refine (Lt w.heap.size w.heap.size ((Lib.itoa l.length++[91])++eg (l.take k)) (Lib.itoa x++[59]) _ (.inr hI3) (by simp only[List.length_append,List.length_cons,List.length_nil]at *;omega) hz3).mono ?_;rintro e w4 ⟨v4,rfl,hB4,hb4⟩))
   go_roundw
   case rel=>exact⟨k+1,by omega,by go_num,by rw[hnn,← List.append_assoc];exact hB4,(hbk.trans (hb3.mono hbk.size)).trans hb4⟩
   case measure=>simp[intOf];omega
  ·obtain rfl:k=l.length:=by omega
   have e3:(⟨((Lib.itoa l.length++[91])++eg l).toArray⟩:ByteArray)++⟨#[93]⟩=⟨(lB l).toArray⟩:=by
    rw[show (⟨#[93]⟩:ByteArray)=⟨([93]:List UInt8).toArray⟩ from rfl,zA]
    simp[lB]
   have hss:(⟨((Lib.itoa l.length++[91])++eg l).toArray⟩:ByteArray).size+1≤9223372036854775807:=by
    show ((Lib.itoa l.length++[91])++eg l).toArray.size+1≤_
    rw[List.size_toArray]
    simp only[List.length_append,List.length_cons,List.length_nil]
    omega
   rw[List.take_length]at hBk
   have hstr:=MZ w.heap.size w.heap.size _ wr (.inr hBk) hbk.size
   generalize (⟨((Lib.itoa l.length++[91])++eg l).toArray⟩:ByteArray)=S at *
   go_wp2_with (go_at_call 122;refine hstr.mono ?_;rintro e w5 ⟨rfl,hb5⟩)
   go_ret
   first|exact⟨rfl,hbk.trans hb5⟩|exact⟨by rw[← e3],hbk.trans hb5⟩
set_option maxHeartbeats 1000000 in
set_option maxRecDepth 100000 in
theorem UU (A:Option Addr) (c:Nat) (w:World) (ht:∀b,p8=some b→∃ty fr,w.heap[b]? = some (.cells lV ty fr)) (htl:∀b,p8=some b→b<w.heap.size) :
  Calls Tryz.prog 93 #[.slice A 0 c,.func (.func 94) #[] #[]] w fun e w'=>e=.returned (.string ⟨(lB []).toArray⟩)∧Below w.heap.size w w':=by
 have htk:∀w',Below w.heap.size w w'→∀b,p8=some b→∃ty fr,w'.heap[b]? = some (.cells lV ty fr):=fun w' hbw b hb=>by
  obtain⟨ty,fr,h⟩:=ht b hb
  exact⟨ty,fr,(hbw.block b (htl b hb)).trans h⟩
 have hB0:Below w.heap.size w (w.alloc (.cells #[.pointer none,.slice none 0 0] 150)):=(Below.refl _ w).alloc (Nat.le_refl _) _
 have hsz:=ur 0 (by decide) (by decide)
 have hll:=Lib.itoa_length_le 0 (by decide) (by decide)
 have e1:A0 0++⟨#[91]⟩=⟨(Lib.itoa 0++[91]).toArray⟩:=zA (Lib.itoa 0) [91]
 go_enter Tryz.func93,Tryz.ntmps93
 have hI0:Lib.IsBuilder 150 5 w.heap.size w.heap.size (Lib.byteCells []) (w.alloc (.cells #[.pointer none,.slice none 0 0] 150)):=Mr w
 go_wp2_with (first
  | (go_at_call 121;refine (PZ 0 _ (by decide) (by decide) (htk _ hB0)).mono ?_;rintro e w1 ⟨rfl,hb1⟩;have hI1:=Ea hI0 hb1;have hz1:w.heap.size≤w1.heap.size:=Nat.le_trans hB0.size hb1.size)
  | (go_at_call 120;refine (Lt w.heap.size w.heap.size [] (Lib.itoa 0++[91]) _ hI1 (by simp only[List.length_nil,List.length_append,List.length_cons];omega) hz1).mono ?_;rintro e w2 ⟨v2,rfl,hB2,hb2⟩))
 have hb20:Below w.heap.size w w2:=(hB0.trans (hb1.mono hB0.size)).trans hb2
 clear hI1 hI0 hB0 hb1 hb2
 go_loopw [15] (fun i wr=>i=.int .i64 0∧wr=w2) (fun i _=>0)
 case atStart=>exact⟨rfl,rfl⟩
 case round =>
  obtain⟨rfl,rfl⟩:=hrel
  have e3:(⟨(Lib.itoa 0++[91]).toArray⟩:ByteArray)++⟨#[93]⟩=⟨(lB []).toArray⟩:=by
   rw[show (⟨#[93]⟩:ByteArray)=⟨([93]:List UInt8).toArray⟩ from rfl,zA]
   simp[lB,eg]
  have hss:(⟨(Lib.itoa 0++[91]).toArray⟩:ByteArray).size+1≤9223372036854775807:=by
   show (Lib.itoa 0++[91]).toArray.size+1≤_
   rw[List.size_toArray]
   simp only[List.length_append,List.length_cons,List.length_nil]
   omega
  have hstr:=MZ w.heap.size w.heap.size _ wr (.inr hB2) hb20.size
  rw[List.nil_append]at hstr
  generalize (⟨(Lib.itoa 0++[91]).toArray⟩:ByteArray)=S at *
  go_wp2_with (go_at_call 122;refine hstr.mono ?_;rintro e w5 ⟨rfl,hb5⟩)
  go_ret
  first|exact⟨rfl,hb20.trans hb5⟩|exact⟨by rw[← e3],hb20.trans hb5⟩
theorem Ss:bI Tryz.prog 53 (ez (dJ (gg (eI .i64))) MB (fun r =>.clean (.str r))) :=
 SK Tryz.func53 ⟨by kernel_rfl,by kernel_rfl⟩ fun l r hr w M u hu ht=>by
  unfold MB at hr
  split at hr
  rotate_left
  ·cases hr
  rename_i hc
  cases hr
  have hu':RP w M (.sl false false l.length (ab (eI .i64) l)) u:=hu
  obtain⟨A,c,rfl,-,-,-,k4⟩:=E4 hu'
  have hcall:Calls Tryz.prog 93 #[.slice A l.length c,.func (.func 94) #[] #[]] w fun e w'=>e=.returned (.string ⟨(lB l).toArray⟩)∧Below w.heap.size w w':=by
   by_cases hl:l=[]
   ·subst hl
    exact UU A c w (fun b hb=>(ht b hb).is) (fun b hb=>(ht b hb).lt)
   ·obtain⟨b,o,rfl,hb,hM,hcc⟩:=k4 hl
    exact UT b o c l w hb hcc hc.1 hc.2.1 hc.2.2 (fun b hb=>(ht b hb).is) (fun b hb=>(ht b hb).lt)
  generalize (⟨(lB l).toArray⟩:ByteArray)=S at *
  go_enter Tryz.func53,Tryz.ntmps53
  go_wp2_with (go_at_call 93;refine hcall.mono ?_;rintro e w1 ⟨rfl,hb1⟩)
  go_ret
  exact⟨rfl,hb1⟩
end Go.Proofs.YtpkahnkoecbndaaGreatDoor.Am
namespace Go.Proofs.YtpkahnkoecbndaaGreatDoor.Am
open Go.RowKit Go.Proofs.YtpkahnkoecbndaaGreatDoor.P
set_option linter.unusedSimpArgs false
set_option linter.unusedVariables false
set_option linter.unusedSectionVars false
noncomputable def oJ {α β:Type} (E:kj α) (A:lO β) (F:List α→β→Option α):List D→List D→Option (List D):=fun ds us =>
 open Classical in if h:∃p:List α×β,ab E p.1=ds∧A.ds p.2=us then (F (Classical.choose h).1 (Classical.choose h).2).map E.cells else none
theorem PQ {α β:Type} (E:kj α) (A:lO β) (F:List α→β→Option α) (l:List α) (b:β):oJ E A F (ab E l) (A.ds b)=(F l b).map E.cells:=by
 have h:∃p:List α×β,ab E p.1=ab E l∧A.ds p.2=A.ds b:=⟨(l,b),rfl,rfl⟩
 simp only[oJ]
 rw[dif_pos h,rA E _ _ (Classical.choose_spec h).1,A.inj _ _ (Classical.choose_spec h).2]
theorem pJ {α β:Type} {E:kj α} {A:lO β} {F:List α→β→Option α} {ds us cs:List D} (h:oJ E A F ds us=some cs):∃l b x,ds=ab E l∧us=A.ds b∧F l b=some x∧cs=E.cells x:=by
 unfold oJ at h
 split at h
 ·rename_i he
  obtain⟨h1,h2⟩:=Classical.choose_spec he
  rw[Option.map_eq_some_iff]at h
  obtain⟨x,h3,h4⟩:=h
  exact⟨_,_,x,h1.symm,h2.symm,h3,h4.symm⟩
 ·cases h
theorem HV {α β:Type} (E:kj α) {A:lO β} {F:List α→β→Option α} {B:Nat} {l z:List α} {b:β} (h:((F l b).bind fun x=>eY B l [x])=some z) :
  ∃cs,oJ E A F (ab E l) (A.ds b)=some cs∧ab E l++cs=ab E z∧l.length+1=z.length∧z.length*B≤140737488355328:=by
 obtain⟨x,h1,h2⟩:=ae h
 obtain⟨q1,q2,q3,q4⟩:=eo E h2
 exact⟨E.cells x,by rw[PQ,h1];rfl,q2,q1,q4⟩
section
variable {P:Program} {w:World}
theorem E6 (L:Nat→Prop) (w:World) (o:Obj):bZ L w (w.alloc o):=⟨rfl,rfl,rfl,by simp,fun k hk _=>heap_alloc_old w o hk⟩
theorem Cb {L:Nat→Prop} {g:Nat} (hg:L g) (cs:Array Value):bZ L w (w.setRow g cs):=⟨rfl,rfl,rfl,by simp[World.setRow],fun k _ hk=>by
 simp only[World.setRow,Array.getElem?_modify]
 rw[if_neg (fun h:g=k=>hk (h ▸ hg))]⟩
theorem CR (t ty el:Nat) {φ:Ty} (hd:P.underlying t=some (.slice el)) (hφ:cZ P el φ) (hpos:0<φ.size) (hz0:φ.zero.length=φ.size) (hby:0<φ.bytes) {go:Option (Nat×Nat)} {u:Value} {n:Nat} {cs:List Value} (hs:wI w el φ.size go u n cs) (hcs:cs.length=n*φ.size)
  (b:Addr) (c:Nat) (us:List Value) (hul:us.length=φ.size) (hus:∀j u,us[j]? = some u→w.cell? (b.add j)=some u) (h1:∀u∈us,u.oneCell'=true) (hb:(n+1)*φ.bytes≤140737488355328) :
  ∃(g:Nat×Nat) (k:Nat) (arr:Array Value) (w':World),(Builtin.append_ #[t,t] ty #[u,.slice (some b) 1 c]).run P w=.ok (.slice (some ⟨g.1,g.2,none⟩) (n+1) k) w'∧bZ (lN go) w w'∧(w.heap.size≤g.1∨lN go g.1)∧w'.heap[g.1]? = some (.cells arr el (0,0)) ∧
   n+1≤k∧k≤maxLen∧k*φ.size+g.2=arr.size∧∀(j:Nat) x,(cs++us)[j]? = some x→arr[g.2+j]? = some x:=by
 have h63:n+1≤maxLen:=by
  have:=Nat.le_mul_of_pos_right (n+1) hby
  unfold maxLen
  omega
 have hul1:us.length=1*φ.size:=by omega
 have new:∀(A:Option Addr) (cap:Nat),u=.slice A n cap→cap<n+1→(A=none→n=0∧cap=0)→(∀ad,A=some ad→∀j u,cs[j]? = some u→w.cell? (ad.add j)=some u) →
   ∃(g:Nat×Nat) (k:Nat) (arr:Array Value) (w':World),(Builtin.append_ #[t,t] ty #[u,.slice (some b) 1 c]).run P w=.ok (.slice (some ⟨g.1,g.2,none⟩) (n+1) k) w'∧bZ (lN go) w w'∧(w.heap.size≤g.1∨lN go g.1)∧w'.heap[g.1]? = some (.cells arr el (0,0)) ∧
   n+1≤k∧k≤maxLen∧k*φ.size+g.2=arr.size∧∀(j:Nat) x,(cs++us)[j]? = some x→arr[g.2+j]? = some x:=by
  intro A cap hu hcap hA hxs
  subst hu
  obtain⟨k,vs,r1,r2,r3,r4,r5⟩:=sf (P:=P) (w:=w) t ty el hd hφ hpos hz0 A n cap cs hcs hxs hA b 1 c us hul1 hus (by omega) h63 hb
  refine⟨(w.heap.size,0),k,vs,_,r1,⟨rfl,rfl,rfl,by simp,fun k hk _=>heap_alloc_old w.drew _ hk⟩,.inl (Nat.le_refl _),heap_alloc_new w.drew _,r2,r3,by omega,fun j x hj =>?_⟩
  rw[← r5]at hj
  rw[List.getElem?_take]at hj
  split at hj
  ·simpa using hj
  ·cases hj
 rcases hs with⟨g,c0,arr,hgo,hu,hh,hsz,hn,hmx,hcell⟩|⟨hgo,rfl,rfl,A,hu⟩
 ·by_cases hroom:n+1≤c0
  ·subst hu
   have hfit:g.2+n*φ.size+us.length≤arr.size:=by
    have:=Nat.mul_le_mul_right φ.size hroom
    rw[Nat.add_mul]at this
    omega
   have hr:=tN (P:=P) (w:=w) t ty el hd hφ g.1 g.2 n c0 arr hh b 1 c us hul1 hus h1 hroom hfit
   refine⟨g,c0,_,_,hr,Cb ⟨g,hgo,rfl⟩ _,.inr ⟨g,hgo,rfl⟩,setRow_heap w g.1 arr _ el (0,0) hh,hroom,hmx,?_,fun j x hj =>?_⟩
   ·simp only[List.size_toArray,List.length_append,List.length_take,List.length_drop,Array.length_toList]
    omega
   ·have hjl:=(List.getElem?_eq_some_iff.1 hj).1
    rw[List.length_append]at hjl
    simp only[List.getElem?_toArray]
    rw[List.append_assoc]
    by_cases hjn:j<cs.length
    ·rw[List.getElem?_append_left hjn]at hj
     have:=hcell j x hj
     rw[List.getElem?_append_left (by simp;omega),List.getElem?_take,if_pos (by omega)]
     simpa using this
    ·rw[List.getElem?_append_right (by omega)]at hj
     rw[List.getElem?_append_right (by simp;omega),List.getElem?_append_left (by simp;omega),← hj]
     congr 1
     simp
     omega
  ·exact new (some ⟨g.1,g.2,none⟩) c0 hu (by omega) (fun h=>by cases h) (fun ad had j u hj=>by
    cases had
    have:=hcell j u hj
    have hlt:=(Array.getElem?_eq_some_iff.1 this).1
    rw[kx,bf hh hlt,Array.getD_eq_getD_getElem?,this]
    rfl)
 ·exact new A 0 hu (by omega) (fun _=>⟨rfl,rfl⟩) (fun ad _ j u hj=>by simp at hj)
theorem BV {ops:Array Oper} {o:Oper} {a:Act} {K:Act→World→Prop} {Q:Exit→Act→World→Prop} {X:Prop} (hgd:o.guard=none) (s x:Operand) (t el:Nat)
  (ho:o.op=.call { callee := .builtin .append,args:=#[s,x],argTypes:=#[t,t] }) {φ:Ty} (hd:P.underlying t=some (.slice el)) (hφ:cZ P el φ) (hpos:0<φ.size) (hz0:φ.zero.length=φ.size) (hby:0<φ.bytes)
  {go:Option (Nat×Nat)} {u:Value} {n:Nat} {cs:List Value} (hsv:a.eval s=u) (hs:wI w el φ.size go u n cs) (hcs:cs.length=n*φ.size)
  (b:Addr) (c:Nat) (us:List Value) (hx:a.eval x=.slice (some b) 1 c) (hul:us.length=φ.size) (hus:∀j u,us[j]? = some u→w.cell? (b.add j)=some u) (h1:∀u∈us,u.oneCell'=true) (hb:(n+1)*φ.bytes≤140737488355328)
  (h:∀(g:Nat×Nat) (k:Nat) (arr:Array Value) (w':World),bZ (lN go) w w'→(w.heap.size≤g.1∨lN go g.1)→w'.heap[g.1]? = some (.cells arr el (0,0)) →
   n+1≤k→k≤maxLen→k*φ.size+g.2=arr.size→(∀(j:Nat) x,(cs++us)[j]? = some x→arr[g.2+j]? = some x)→K (a.put o.dst (.slice (some ⟨g.1,g.2,none⟩) (n+1) k)) w') :
  if Region.wanted o (yielded ops a.tmps)=true then Oper.wp P o a w K Q else X:=by
 have hw:Region.wanted o (yielded ops a.tmps)=true:=by simp[Region.wanted,hgd]
 rw[if_pos hw]
 obtain⟨g,k,arr,w',hr,q1,q2,q3,q4,q5,q6,q7⟩:=CR (P:=P) t o.type el hd hφ hpos hz0 hby hs hcs b c us hul hus h1 hb
 unfold Oper.wp execOp
 simp only[ho,resolve,invoke,builtin,Sem.run_bind,Sem.run_pure,Result.andThen_ok,List.map_toArray,List.map_cons,List.map_nil,hsv,hx,hr]
 exact h g k arr w' q1 q2 q3 q4 q5 q6 q7
theorem wI.later {ty k:Nat} {go:Option (Nat×Nat)} {u:Value} {n:Nat} {cs:List Value} {w':World} (hs:wI w ty k go u n cs) (hb:bZ (fun _=>False) w w'):wI w' ty k go u n cs:=by
 rcases hs with⟨g,c0,arr,hgo,hu,hh,q⟩|q
 ·exact .inl ⟨g,c0,arr,hgo,hu,(hb.block g.1 (Array.getElem?_eq_some_iff.1 hh).1 (fun h=>h)).trans hh,q⟩
 ·exact .inr q
end
def jO (gy:Nat×Nat) (ya:Array Value) (ty:Nat) (go:Option (Nat×Nat)) (n el size:Nat) (cs:List Value) (w:World) (e:Ending) (w':World):Prop :=
 e=.returned (.int .i64 (n:Int))∧bZ (fun b=>b=gy.1∨lN go b) w w' ∧
  ∃(g:Nat×Nat) (c:Nat) (arr:Array Value),(w.heap.size≤g.1∨lN go g.1)∧w'.heap[gy.1]? = some (.cells (ya.setIfInBounds gy.2 (.slice (some ⟨g.1,g.2,none⟩) (n+1) c)) ty (0,0))∧w'.heap[g.1]? = some (.cells arr el (0,0)) ∧
   n+1≤c∧c≤maxLen∧c*size+g.2=arr.size∧∀(j:Nat) x,cs[j]? = some x→arr[g.2+j]? = some x
theorem zB (w:World) (o o':Obj):bZ (fun _=>False) w ((w.alloc o).alloc o').drew:=⟨rfl,rfl,rfl,by simp;omega,fun k hk _=>(heap_alloc_old (w.alloc o) o' (by simp;omega)).trans (heap_alloc_old w o hk)⟩
theorem jO.base {gy:Nat×Nat} {ya:Array Value} {ty:Nat} {go:Option (Nat×Nat)} {n el size:Nat} {cs:List Value} {w wA w':World} {e:Ending} (hA:bZ (fun _=>False) w wA) (h:jO gy ya ty go n el size cs wA e w'):jO gy ya ty go n el size cs w e w':=by
 obtain⟨h1,h2,g,c,arr,h3,h4⟩:=h
 exact⟨h1,bZ.trans (L:=fun b=>b=gy.1∨lN go b) ⟨hA.os,hA.tape,hA.output,hA.size,fun k hk _=>hA.block k hk (fun h=>h)⟩ h2 (fun x hx _=>hx),g,c,arr,h3.imp (fun h=>Nat.le_trans hA.size h) (fun h=>h),h4⟩
theorem tP (w:World) (a:Addr) (u:Value) (k:Nat) (h:k≠a.block):(w.setCell a u).heap[k]? = w.heap[k]?:=by
 simp only[World.setCell,Array.getElem?_modify]
 rw[if_neg (Ne.symm h)]
theorem NH {w wA w2:World} {gy g:Nat×Nat} {ya arr:Array Value} {ty el size n k:Nat} {go:Option (Nat×Nat)} {cs:List Value} (hy:w.heap[gy.1]? = some (.cells ya ty (0,0))) (hul:gy.2<ya.size) (hne:∀g,go=some g→g.1≠gy.1) (hA:bZ (fun _=>False) w wA) (q1:bZ (lN go) wA w2)
  (q2:wA.heap.size≤g.1∨lN go g.1) (q3:w2.heap[g.1]? = some (.cells arr el (0,0))) (q4:n+1≤k) (q5:k≤maxLen) (q6:k*size+g.2=arr.size) (q7:∀(j:Nat) x,cs[j]? = some x→arr[g.2+j]? = some x) (hk0:w2.heap[gy.1]? = some (.cells ya ty (0,0))) :
  jO gy ya ty go n el size cs w (.returned (.int .i64 (n:Int))) (w2.setCell ⟨gy.1,gy.2,none⟩ (.slice (some ⟨g.1,g.2,none⟩) (n+1) k)):=by
 obtain⟨hyl,-⟩:=Array.getElem?_eq_some_iff.1 hy
 have hgg:g.1≠gy.1:=by
  rcases q2 with q2|⟨g0,hg0,he⟩
  ·have:=hA.size;omega
  ·rw[he];exact hne g0 hg0
 have hb:bZ (fun b=>b=gy.1∨lN go b) w w2:=bZ.trans (L:=fun b=>b=gy.1∨lN go b) (L':=lN go) ⟨hA.os,hA.tape,hA.output,hA.size,fun k hk _=>hA.block k hk (fun h=>h)⟩ q1 (fun x hx _ =>.inr hx)
 refine⟨rfl,⟨hb.os,hb.tape,hb.output,by simpa [World.setCell] using hb.size,fun b hb1 hb2 =>?_⟩,g,k,arr,?_,?_,?_,q4,q5,q6,q7⟩
 ·rw[tP _ _ _ _ (fun h=>hb2 (.inl h))]
  exact hb.block b hb1 hb2
 ·exact q2.imp (fun h=>Nat.le_trans hA.size h) (fun h=>h)
 ·simp[World.setCell,Array.getElem?_modify,hk0]
 ·rw[tP _ _ _ _ hgg];exact q3
set_option maxHeartbeats 2000000 in
set_option maxRecDepth 100000 in
theorem Gz (w:World) (gy:Nat×Nat) (ya:Array Value) (ty:Nat) (go:Option (Nat×Nat)) (u:Value) (n:Nat) (cs:List Value) (s:ByteArray) (v1 v2 v3 v4:Int) (hy:w.heap[gy.1]? = some (.cells ya ty (0,0))) (hu:ya[gy.2]? = some u)
  (hs:wI w 87 5 go u n cs) (hne:∀g,go=some g→g.1≠gy.1) (hcs:cs.length=n*5) (hb:(n+1)*48≤140737488355328) :
  Calls Tryz.prog 64 #[.pointer (some ⟨gy.1,gy.2,none⟩),.agg #[.string s,.int .i64 v1,.int .i64 v2,.int .i64 v3,.int .i64 v4]] w (jO gy ya ty go n 87 5 (cs++[.string s,.int .i64 v1,.int .i64 v2,.int .i64 v3,.int .i64 v4]) w):=by
 obtain⟨hyl,-⟩:=Array.getElem?_eq_some_iff.1 hy
 obtain⟨hul,hue⟩:=Array.getElem?_eq_some_iff.1 hu
 have hcell:∀w':World,w'.heap[gy.1]? = w.heap[gy.1]?→w'.cell? ⟨gy.1,gy.2,none⟩=some u∧w'.frozen? ⟨gy.1,gy.2,none⟩=false:=by
  intro w' h
  rw[hy]at h
  refine⟨?_,?_⟩
  ·rw[bf h hul,Array.getD_eq_getD_getElem?,hu];rfl
  ·simp[World.frozen?,h]
 go_enter Tryz.func64,Tryz.ntmps64
 go_wp2
 generalize hW:w.alloc (.cells #[.string s,.int .i64 v1,.int .i64 v2,.int .i64 v3,.int .i64 v4] 87)=W
 have hWs:W.heap.size=w.heap.size+1:=by rw[← hW];simp
 have hWb:bZ (fun _=>False) w W:=by rw[← hW];exact E6 _ w _
 have hWn:W.heap[w.heap.size]? = some (.cells #[.string s,.int .i64 v1,.int .i64 v2,.int .i64 v3,.int .i64 v4] 87):=by rw[← hW];exact heap_alloc_new w _
 have c0:W.drew.cell? ⟨gy.1,gy.2,none⟩=some u:=(hcell W.drew (hWb.block gy.1 hyl (fun h=>h))).1
 have c1:∀o,(W.drew.alloc o).cell? ⟨gy.1,gy.2,none⟩=some u:=fun o=>(hcell (W.drew.alloc o) ((heap_alloc_old W.drew o (by show gy.1<W.heap.size;omega)).trans (hWb.block gy.1 hyl (fun h=>h)))).1
 have c2:∀o,(W.alloc o).drew.cell? ⟨gy.1,gy.2,none⟩=some u:=c1
 have b0:W.drew.cell? ⟨w.heap.size,0,none⟩=some (.string s):=bf (w:=W.drew) hWn (by simp)
 have b1:W.drew.cell? ⟨w.heap.size,1,none⟩=some (.int .i64 v1):=bf (w:=W.drew) hWn (by simp)
 have b2:W.drew.cell? ⟨w.heap.size,2,none⟩=some (.int .i64 v2):=bf (w:=W.drew) hWn (by simp)
 have b3:W.drew.cell? ⟨w.heap.size,3,none⟩=some (.int .i64 v3):=bf (w:=W.drew) hWn (by simp)
 have b4:W.drew.cell? ⟨w.heap.size,4,none⟩=some (.int .i64 v4):=bf (w:=W.drew) hWn (by simp)
 generalize hO:Obj.cells #[.string s,.int .i64 v1,.int .i64 v2,.int .i64 v3,.int .i64 v4] 87=O at *
 have hbb:bZ (fun _=>False) w (W.drew.alloc O):=hWb.trans (show bZ (fun _=>False) W (W.drew.alloc O) from ⟨rfl,rfl,rfl,by simp,fun k hk _=>heap_alloc_old W.drew O hk⟩) (fun _ h _=>h)
 have hsA:=hs.later hbb
 have hnews:∀(j:Nat) x,([Value.string s,.int .i64 v1,.int .i64 v2,.int .i64 v3,.int .i64 v4]:List Value)[j]? = some x→(W.drew.alloc O).cell? ((⟨w.heap.size+1,0,none⟩:Addr).add j)=some x:=by
  intro j x hj
  have hn:(W.drew.alloc O).heap[w.heap.size+1]? = some (.cells #[.string s,.int .i64 v1,.int .i64 v2,.int .i64 v3,.int .i64 v4] 87):=by rw[hO,← hWs];exact heap_alloc_new W.drew _
  have hlt:=(List.getElem?_eq_some_iff.1 hj).1
  rw[kx,Nat.zero_add,bf hn (by simpa using hlt),Array.getD_eq_getD_getElem?]
  simp only[List.getElem?_toArray,hj,Option.getD_some]
 have hones:∀x∈([Value.string s,.int .i64 v1,.int .i64 v2,.int .i64 v3,.int .i64 v4]:List Value),x.oneCell'=true:=by
  intro x hx
  simp only[List.mem_cons,List.not_mem_nil,or_false]at hx
  rcases hx with rfl|rfl|rfl|rfl|rfl<;>rfl
 subst hO
 have hnot:¬lN go gy.1:=by rintro⟨g,hg,he⟩;exact hne g hg he.symm
 go_region_law (refine BV rfl (.tmp 10) (.tmp 12) 22 87 rfl Tryz.underlying22 TB (by decide) rfl (by decide) rfl hsA hcs ⟨w.heap.size+1,0,none⟩ 1 _ rfl rfl hnews hones hb ?_;intro g k arr w2 q1 q2 q3 q4 q5 q6 q7;have hk0:w2.heap[gy.1]? = some (.cells ya ty (0,0)):=(q1.block gy.1 (Nat.lt_of_lt_of_le hyl hbb.size) hnot).trans ((hbb.block gy.1 hyl (fun h=>h)).trans hy);obtain⟨d0,d1⟩:=hcell w2 (hk0.trans hy.symm))
 all_goals go_wp2
 all_goals go_ret
 all_goals exact NH hy hul hne hbb q1 q2 q3 q4 q5 q6 q7 hk0
set_option maxHeartbeats 4000000 in
set_option maxRecDepth 100000 in
theorem N3 (w:World) (gy:Nat×Nat) (ya:Array Value) (ty:Nat) (go:Option (Nat×Nat)) (u:Value) (n:Nat) (cs:List Value) (i j:Nat) (s1 s2:ByteArray) (v1 v2 v3 v4 u1 u2 u3 u4:Int) (hy:w.heap[gy.1]? = some (.cells ya ty (0,0))) (hu:ya[gy.2]? = some u)
  (hs:wI w 87 5 go u n cs) (hne:∀g,go=some g→g.1≠gy.1) (hcs:cs.length=n*5) (hb:(n+1)*48≤140737488355328) (hi:i<n) (hj:j<n)
  (hx:∀q x,[Value.string s1,.int .i64 v1,.int .i64 v2,.int .i64 v3,.int .i64 v4][q]? = some x→cs[i*5+q]? = some x) (hz:∀q x,[Value.string s2,.int .i64 u1,.int .i64 u2,.int .i64 u3,.int .i64 u4][q]? = some x→cs[j*5+q]? = some x) :
  Calls Tryz.prog 66 #[.pointer (some ⟨gy.1,gy.2,none⟩),.int .i64 (i:Int),.int .i64 (j:Int)] w (jO gy ya ty go n 87 5 (cs++[.string ⟨#[]⟩,.int .i64 (IntKind.i64.wrap (v1+u1)),.int .i64 (IntKind.i64.wrap (v2+u2)),.int .i64 (i:Int),.int .i64 (j:Int)]) w):=by
 obtain⟨hyl,-⟩:=Array.getElem?_eq_some_iff.1 hy
 obtain⟨hul,hue⟩:=Array.getElem?_eq_some_iff.1 hu
 rcases hs with⟨g,c,arr,hgo,rfl,hh,hsz,hn,hmx,hcell⟩|⟨-,hn,-⟩
 rotate_left
 ·omega
 obtain⟨hgl,-⟩:=Array.getElem?_eq_some_iff.1 hh
 have ecel:∀w':World,(∀k,k<w.heap.size→w'.heap[k]? = w.heap[k]?)→w'.cell? ⟨gy.1,gy.2,none⟩=some (.slice (some ⟨g.1,g.2,none⟩) n c):=by
  intro w' hw
  rw[bf ((hw _ hyl).trans hy) hul,Array.getD_eq_getD_getElem?,hu];rfl
 have cel:∀w':World,(∀k,k<w.heap.size→w'.heap[k]? = w.heap[k]?)→∀(k:Nat) x,cs[k]? = some x→w'.cell? ⟨g.1,g.2+k,none⟩=some x:=by
  intro w' hw k x hk
  have:=hcell k x hk
  have hlt:=(Array.getElem?_eq_some_iff.1 this).1
  rw[bf ((hw _ hgl).trans hh) hlt,Array.getD_eq_getD_getElem?,this];rfl
 have w1:∀o k,k<w.heap.size→(w.alloc o).heap[k]? = w.heap[k]?:=fun o k hk=>heap_alloc_old w o hk
 have w2:∀o o' k,k<w.heap.size→((w.alloc o).alloc o').heap[k]? = w.heap[k]?:=fun o o' k hk=>(heap_alloc_old (w.alloc o) o' (by simp;omega)).trans (heap_alloc_old w o hk)
 have e0:=ecel w (fun _ _=>rfl)
 have e1:=fun o=>ecel (w.alloc o) (w1 o)
 have e2:=fun o o'=>ecel ((w.alloc o).alloc o') (w2 o o')
 have a0:∀w':World,(∀k,k<w.heap.size→w'.heap[k]? = w.heap[k]?)→w'.cell? ⟨g.1,g.2+i*5,none⟩=some (.string s1):=fun w' hw=>cel w' hw (i*5+0) _ (hx 0 _ rfl)
 have a0x:=a0 w (fun _ _=>rfl)
 have a0y:=fun o=>a0 (w.alloc o) (w1 o)
 have a0z:=fun o o'=>a0 ((w.alloc o).alloc o') (w2 o o')
 clear a0
 have a1:∀w':World,(∀k,k<w.heap.size→w'.heap[k]? = w.heap[k]?)→w'.cell? ⟨g.1,g.2+i*5+1,none⟩=some (.int .i64 v1):=fun w' hw=>cel w' hw (i*5+1) _ (hx 1 _ rfl)
 have a1x:=a1 w (fun _ _=>rfl)
 have a1y:=fun o=>a1 (w.alloc o) (w1 o)
 have a1z:=fun o o'=>a1 ((w.alloc o).alloc o') (w2 o o')
 clear a1
 have a2:∀w':World,(∀k,k<w.heap.size→w'.heap[k]? = w.heap[k]?)→w'.cell? ⟨g.1,g.2+i*5+2,none⟩=some (.int .i64 v2):=fun w' hw=>cel w' hw (i*5+2) _ (hx 2 _ rfl)
 have a2x:=a2 w (fun _ _=>rfl)
 have a2y:=fun o=>a2 (w.alloc o) (w1 o)
 have a2z:=fun o o'=>a2 ((w.alloc o).alloc o') (w2 o o')
 clear a2
 have a3:∀w':World,(∀k,k<w.heap.size→w'.heap[k]? = w.heap[k]?)→w'.cell? ⟨g.1,g.2+i*5+3,none⟩=some (.int .i64 v3):=fun w' hw=>cel w' hw (i*5+3) _ (hx 3 _ rfl)
 have a3x:=a3 w (fun _ _=>rfl)
 have a3y:=fun o=>a3 (w.alloc o) (w1 o)
 have a3z:=fun o o'=>a3 ((w.alloc o).alloc o') (w2 o o')
 clear a3
 have a4:∀w':World,(∀k,k<w.heap.size→w'.heap[k]? = w.heap[k]?)→w'.cell? ⟨g.1,g.2+i*5+4,none⟩=some (.int .i64 v4):=fun w' hw=>cel w' hw (i*5+4) _ (hx 4 _ rfl)
 have a4x:=a4 w (fun _ _=>rfl)
 have a4y:=fun o=>a4 (w.alloc o) (w1 o)
 have a4z:=fun o o'=>a4 ((w.alloc o).alloc o') (w2 o o')
 clear a4
 have b0:∀w':World,(∀k,k<w.heap.size→w'.heap[k]? = w.heap[k]?)→w'.cell? ⟨g.1,g.2+j*5,none⟩=some (.string s2):=fun w' hw=>cel w' hw (j*5+0) _ (hz 0 _ rfl)
 have b0x:=b0 w (fun _ _=>rfl)
 have b0y:=fun o=>b0 (w.alloc o) (w1 o)
 have b0z:=fun o o'=>b0 ((w.alloc o).alloc o') (w2 o o')
 clear b0
 have b1:∀w':World,(∀k,k<w.heap.size→w'.heap[k]? = w.heap[k]?)→w'.cell? ⟨g.1,g.2+j*5+1,none⟩=some (.int .i64 u1):=fun w' hw=>cel w' hw (j*5+1) _ (hz 1 _ rfl)
 have b1x:=b1 w (fun _ _=>rfl)
 have b1y:=fun o=>b1 (w.alloc o) (w1 o)
 have b1z:=fun o o'=>b1 ((w.alloc o).alloc o') (w2 o o')
 clear b1
 have b2:∀w':World,(∀k,k<w.heap.size→w'.heap[k]? = w.heap[k]?)→w'.cell? ⟨g.1,g.2+j*5+2,none⟩=some (.int .i64 u2):=fun w' hw=>cel w' hw (j*5+2) _ (hz 2 _ rfl)
 have b2x:=b2 w (fun _ _=>rfl)
 have b2y:=fun o=>b2 (w.alloc o) (w1 o)
 have b2z:=fun o o'=>b2 ((w.alloc o).alloc o') (w2 o o')
 clear b2
 have b3:∀w':World,(∀k,k<w.heap.size→w'.heap[k]? = w.heap[k]?)→w'.cell? ⟨g.1,g.2+j*5+3,none⟩=some (.int .i64 u3):=fun w' hw=>cel w' hw (j*5+3) _ (hz 3 _ rfl)
 have b3x:=b3 w (fun _ _=>rfl)
 have b3y:=fun o=>b3 (w.alloc o) (w1 o)
 have b3z:=fun o o'=>b3 ((w.alloc o).alloc o') (w2 o o')
 clear b3
 have b4:∀w':World,(∀k,k<w.heap.size→w'.heap[k]? = w.heap[k]?)→w'.cell? ⟨g.1,g.2+j*5+4,none⟩=some (.int .i64 u4):=fun w' hw=>cel w' hw (j*5+4) _ (hz 4 _ rfl)
 have b4x:=b4 w (fun _ _=>rfl)
 have b4y:=fun o=>b4 (w.alloc o) (w1 o)
 have b4z:=fun o o'=>b4 ((w.alloc o).alloc o') (w2 o o')
 clear b4
 clear hx hz ecel cel w1
 have w3:∀o o' k,k<w.heap.size→((w.alloc o).alloc o').drew.heap[k]? = w.heap[k]?:=w2
 have hi1:(0:Int)≤(i:Int):=by omega
 have hi2:(i:Int)<(n:Int):=by omega
 have hj1:(0:Int)≤(j:Int):=by omega
 have hj2:(j:Int)<(n:Int):=by omega
 go_enter Tryz.func66,Tryz.ntmps66
 go_wp2
 go_region
 all_goals (go_wp2_with (go_at_call 64;refine (Gz _ gy ya ty go _ n cs _ _ _ _ _ ((w3 _ _ _ hyl).trans hy) hu (wI.later (.inl ⟨g,c,arr,hgo,rfl,hh,hsz,hn,hmx,hcell⟩) (zB w _ _)) hne hcs hb).mono ?_;rintro e w' hp;obtain⟨rfl,hp2⟩:=jO.base (zB w _ _) hp))
 all_goals go_ret
 all_goals (simp only[← IntWalk.i64_left]at hp2;exact⟨rfl,hp2.1,hp2.2⟩)
section
variable {α:Type} (E:kj α) (mk:ByteArray→Int→Int→Int→Int→α) (hmk:∀s a b c d,E.cells (mk s a b c d)=[.str s,.int .i64 a,.int .i64 b,.int .i64 c,.int .i64 d]) (hall:∀x,∃s a b c d,x=mk s a b c d)
include hmk hall
theorem qd:E.size=5:=by
 rw[← E.len (mk ⟨#[]⟩ 0 0 0 0),hmk];rfl
theorem p9 (x:α):∀d∈E.cells x,tB d=true:=by
 obtain⟨s,a,b,c,d,rfl⟩:=hall x
 rw[hmk]
 intro y hy
 simp only[List.mem_cons,List.not_mem_nil,or_false]at hy
 rcases hy with rfl|rfl|rfl|rfl|rfl<;>rfl
theorem yv (l:List α):∀d∈ab E l,tB d=true:=by
 induction l with
 | nil=>intro d hd;cases hd
 | cons x l ih =>
  intro d hd
  rcases List.mem_append.1 hd with h|h
  ·exact p9 E mk hmk hall x d h
  ·exact ih d h
theorem TJ:zp Tryz.prog 64 ⟨87,5,48,oJ E (dJ (dU E)) J3⟩ where
 callable:=⟨_,Tryz.func64,by kernel_rfl,by kernel_rfl⟩
 pos:=Nat.zero_lt_succ 4
 flat ds us cs h:=by
  obtain⟨l,b,x,rfl,rfl,hx,rfl⟩:=pJ (show oJ E (dJ (dU E)) J3 ds us=some cs from h)
  refine⟨yv E mk hmk hall l,fun d hd =>?_,p9 E mk hmk hall x,by rw[E.len];exact qd E mk hmk hall⟩
  simp only[dJ,List.mem_cons,List.not_mem_nil,or_false]at hd
  subst hd
  exact List.all_eq_true.2 (p9 E mk hmk hall b)
 calls w gy ya ty go u n ds us cs hy hu hs hne hlen hsem hb:=by
  obtain⟨l,b,x,rfl,rfl,hx,rfl⟩:=pJ (show oJ E (dJ (dU E)) J3 ds us=some cs from hsem)
  obtain rfl:b=x:=by simpa [J3] using hx
  obtain⟨s,v1,v2,v3,v4,rfl⟩:=hall b
  have h:=Gz w gy ya ty go u n _ s v1 v2 v3 v4 hy hu hs hne (by simpa using hlen) hb
  have e1:(dJ (dU E)).ds (mk s v1 v2 v3 v4)=[.agg [.str s,.int .i64 v1,.int .i64 v2,.int .i64 v3,.int .i64 v4]]:=by
   simp only[dJ,TI,hmk]
  rw[e1,hmk]
  refine h.mono fun e w' hp =>?_
  simpa [jO,yZ] using hp
end
section
variable {α:Type} (E:kj α) (mk:ByteArray→Int→Int→Int→Int→α) (hmk:∀s a b c d,E.cells (mk s a b c d)=[.str s,.int .i64 a,.int .i64 b,.int .i64 c,.int .i64 d]) (hall:∀x,∃s a b c d,x=mk s a b c d) (val bl:α→Int) (hval:∀s a b c d,val (mk s a b c d)=a) (hbl:∀s a b c d,bl (mk s a b c d)=b)
include hmk hall hval hbl
theorem BX {l:List α} {i:Int} {s:ByteArray} {v1 v2 v3 v4:Int} (h:P.idx l i=some (mk s v1 v2 v3 v4)):0≤i∧i<l.length∧∀q x,[Value.string s,.int .i64 v1,.int .i64 v2,.int .i64 v3,.int .i64 v4][q]? = some x→((ab E l).map yZ)[i.toNat*5+q]? = some x:=by
 have hb:=AV h
 have ha:=vx E h
 rw[qd E mk hmk hall,hmk]at ha
 refine⟨hb.1,hb.2,fun q x hx =>?_⟩
 have hq:=(List.getElem?_eq_some_iff.1 hx).1
 simp only[List.length_cons,List.length_nil]at hq
 have h1:((ab E l).drop (i.toNat*5))[q]? = [D.str s,.int .i64 v1,.int .i64 v2,.int .i64 v3,.int .i64 v4][q]?:=by
  rw[ha,List.getElem?_append_left (by simpa using hq)]
 rw[List.getElem?_drop]at h1
 rw[List.getElem?_map,h1,← List.getElem?_map]
 exact hx
theorem Sy:zp Tryz.prog 66 ⟨87,5,48,oJ E (dX (aI .i64) (dJ (aI .i64))) (Bl mk val bl)⟩ where
 callable:=⟨_,Tryz.func66,by kernel_rfl,by kernel_rfl⟩
 pos:=Nat.zero_lt_succ 4
 flat ds us cs h:=by
  obtain⟨l,b,x,rfl,rfl,hx,rfl⟩:=pJ (show oJ E (dX (aI .i64) (dJ (aI .i64))) (Bl mk val bl) ds us=some cs from h)
  refine⟨yv E mk hmk hall l,fun d hd =>?_,p9 E mk hmk hall x,by rw[E.len];exact qd E mk hmk hall⟩
  simp only[dJ,dX,VV,List.mem_cons,List.not_mem_nil,or_false]at hd
  rcases hd with rfl|rfl<;>rfl
 calls w gy ya ty go u n ds us cs hy hu hs hne hlen hsem hb:=by
  obtain⟨l,⟨i,j⟩,z,rfl,rfl,hz,rfl⟩:=pJ (show oJ E (dX (aI .i64) (dJ (aI .i64))) (Bl mk val bl) ds us=some cs from hsem)
  unfold Bl at hz
  obtain⟨x,hx,hz⟩:=ae hz
  obtain⟨y,hy1,hz⟩:=ae hz
  simp only[Option.some.injEq]at hz
  subst hz
  obtain⟨s,v1,v2,v3,v4,rfl⟩:=hall x
  obtain⟨s2,u1,u2,u3,u4,rfl⟩:=hall y
  obtain⟨i1,i2,i3⟩:=BX E mk hmk hall val bl hval hbl hx
  obtain⟨j1,j2,j3⟩:=BX E mk hmk hall val bl hval hbl hy1
  have hn:l.length=n:=by
   rw[cq,qd E mk hmk hall]at hlen
   exact Nat.eq_of_mul_eq_mul_right (by decide) hlen
  have h:=N3 w gy ya ty go u n _ i.toNat j.toNat s s2 v1 v2 v3 v4 u1 u2 u3 u4 hy hu hs hne (by simpa using hlen) hb (by omega) (by omega) i3 j3
  have ei:((i.toNat:Nat):Int)=i:=by omega
  have ej:((j.toNat:Nat):Int)=j:=by omega
  rw[ei,ej]at h
  rw[hmk,hval,hval,hbl,hbl]
  refine h.mono fun e w' hp =>?_
  simpa [jO,yZ] using hp
end
set_option maxRecDepth 100000
noncomputable def Ih:List (String×DataW Unit):=[("math/bits.deBruijn32tab",Rows.laid_math_bits_deBruijn32tab),("math/bits.deBruijn64tab",Rows.laid_math_bits_deBruijn64tab),("internal/strconv.uint64pow10",Rows.laid_internal_strconv_uint64pow10)]
theorem Pr (os:Os) (args:Array Value):laidMetH Tryz.prog Ih ((World.doorLaid Tryz.prog 400 os).forCall (fun _ _=>0) ⟨#[],args,[]⟩).memory :=
 laidMetH_of_parts3 (fuel:=8) (laidMet_of_run' 8 (by kernel_rfl) (by kernel_rfl)) (by kernel_rfl) (by kernel_rfl)
theorem Sl:Rows.laid_internal_strconv_uint64pow10 (H:=Unit)=Lib.tabData .u64 Lib.pow10Tab:=by
 simp[Rows.laid_internal_strconv_uint64pow10,Lib.tabData,Lib.pow10Tab,List.range,List.range.loop]
theorem P0 {w:World} (h:laidMetH Tryz.prog Ih w):E5 w (fun _=>False):=fun b hb=>by
 rw[MakeChecks.laidMetH_plain _ _ _ (by kernel_rfl)]at h
 have h3:laidMet Tryz.prog [("internal/strconv.uint64pow10",Rows.laid_internal_strconv_uint64pow10)] w:=h.tail.tail
 rw[Sl]at h3
 have ht:Lib.TabIs Tryz.prog w "internal/strconv.uint64pow10" .u64 Lib.pow10Tab:=Lib.tabIs_of_head (g:=0) (t:=204) (e:=178) (n:=20) (by kernel_rfl) (by kernel_rfl) (by kernel_rfl) (by kernel_rfl) (by kernel_rfl) (by kernel_rfl) h3
 cases hb
 have hg:Tryz.prog.globalNamed "internal/strconv.uint64pow10" = some 0:=by kernel_rfl
 simp only[Lib.TabIs,World.var?,hg,Option.bind_some]at ht
 have hc:∃ty fr,w.heap[0]? = some (.cells lV ty fr):=by
  split at ht
  ·rename_i cs ty fr hcs
   refine⟨ty,fr,?_⟩
   rw[hcs]
   have e:cs=lV:=by
    have:=Option.some.inj ht
    rw[this]
    simp[Lib.pow10Tab,lV]
   rw[e]
  ·cases ht
 obtain⟨ty,fr,hc⟩:=hc
 exact⟨(Array.getElem?_eq_some_iff.1 hc).1,fun h=>h,ty,fr,hc⟩
end Go.Proofs.YtpkahnkoecbndaaGreatDoor.Am
namespace Go.Proofs.YtpkahnkoecbndaaGreatDoor.P
open Go.RowKit
set_option linter.unusedVariables false
structure ay where
 ah:Int
 aa:(List Int)
structure ba where
 cH:ay
 cB:ay
structure gx where
 bz:ba
 aY:ba
structure aK where
 eu:Int
 cc:gx
structure LD where
 zc:(List ByteArray)
 vp:(List Int)
 vo:(List Int)
structure bQ where
 eu:Int
 kz:(List Int)
 ct:ByteArray
 aN:Int
 aU:Int
structure bt where
 eu:Int
 jU:Int
structure av where
 ct:ByteArray
 aN:Int
 aU:Int
 ca:Int
 bK:Int
structure az where
 ak:(List av)
structure jf where
 Sh:az
 wT:Int
 sw:Int
 su:Int
structure uN where
 zd:az
def UF:ByteArray:=ByteArray.mk #[0,1,2,2,3,3,3,3,4,4,4,4,4,4,4,4,5,5,5,5,5,5,5,5,5,5,5,5,5,5,5,5,6,6,6,6,6,6,6,6,6,6,6,6,6,6,6,6,6,6,6,6,6,6,6,6,6,6,6,6,6,6,6,6,7,7,7,7,7,7,7,7,7,7,7,7,7,7,7,7,7,7,7,7,7,7,7,7,7,7,7,7,7,7,7,7,7,7,7,7,7,7,7,7,7,7,7,7,7,7,7,7,7,7,7,7,7,7,7,7,7,7,7,7,7,7,7,7,8,8,8,8,8,8,8,8,8,8,8,8,8,8,8,8,8,8,8,8,8,8,8,8,8,8,8,8,8,8,8,8,8,8,8,8,8,8,8,8,8,8,8,8,8,8,8,8,8,8,8,8,8,8,8,8,8,8,8,8,8,8,8,8,8,8,8,8,8,8,8,8,8,8,8,8,8,8,8,8,8,8,8,8,8,8,8,8,8,8,8,8,8,8,8,8,8,8,8,8,8,8,8,8,8,8,8,8,8,8,8,8,8,8,8,8,8,8,8,8,8,8,8,8,8,8,8,8]
def dE (p0:Int) (p1:Int):Option (Bool) :=
 if decide (p0≥0) then
  some (decide (p0≤p1))
 else
  some false
def im (p0:av):Option (Bool) :=
 (if (p0.ca==(-1)) then
  some (p0.bK==(-1))
 else
  some false).bind fun s3j1 =>
 if s3j1 then
  if decide ((p0.ct.size:Int)≤8000) then
   (dE p0.aN 1099511627776).bind fun r4 =>
   if r4 then
    (dE p0.aU 1099511627776).bind fun r6 =>
    some r6
   else
    some false
  else
   some false
 else
  some false
def jl (p0:(List av)) (p1:Int) (p2:Int):Option (av×Int) :=
 (dE p1 (IntKind.i64.wrap ((p0.length:Int)-1))).bind fun r1 =>
 (if (!r1) then
  some true
 else
  (dE p2 (IntKind.i64.wrap ((p0.length:Int)-1))).bind fun r9 =>
  some (!r9)).bind fun s24j1 =>
 if s24j1 then
  some ((av.mk (ByteArray.mk #[]) 0 0 0 0),4)
 else
  (P.idx p0 p1).bind fun x4 =>
  (P.idx p0 p2).bind fun x5 =>
  if decide ((IntKind.i64.wrap (x4.aN+x5.aN))>1125899906842624) then
   some ((av.mk (ByteArray.mk #[]) 0 0 0 0),3)
  else
   if decide ((IntKind.i64.wrap (x4.aU+x5.aU))>1125899906842624) then
    some ((av.mk (ByteArray.mk #[]) 0 0 0 0),3)
   else
    some ((av.mk (ByteArray.mk #[]) (IntKind.i64.wrap (x4.aN+x5.aN)) (IntKind.i64.wrap (x4.aU+x5.aU)) p1 p2),0)
def kh (p0:az):(Int)→Option ((Int)⊕((Unit)⊕(Bool)))
 | s14a =>
  if decide (s14a<(p0.ak.length:Int)) then
   (P.idx p0.ak s14a).bind fun x13 =>
   (im x13).bind fun r14 =>
   if r14 then
    some (.inl (IntKind.i64.wrap (s14a+1)))
   else
    (yY p0.ak 0 s14a).bind fun x16 =>
    (jl x16 x13.ca x13.bK).bind fun r18 =>
    if (r18.2 != 0) then
     some (.inr (.inr false))
    else
     if (!((x13.ct==r18.1.ct)&&((x13.aN==r18.1.aN)&&((x13.aU==r18.1.aU)&&((x13.ca==r18.1.ca)&&(x13.bK==r18.1.bK)))))) then
      some (.inr (.inr false))
     else
      some (.inl (IntKind.i64.wrap (s14a+1)))
  else
   some (.inr (.inl ()))
def dp (p0:az):Option (Bool) :=
 if decide ((p0.ak.length:Int)>2000) then
  some false
 else
  (aJ (kh p0) 0).bind fun q=>match q with
  | (.inl _) =>
   some true
  | (.inr ra) =>
   some ra
def mH (p0:ByteArray) (p1:Int) (p2:Int):Option (av) :=
 some (av.mk p0 p1 p2 (-1) (-1))
def dD (p0:(List av)):Option (List av):=eY 48 [] p0
def oU (l:List av) (p1:av):Option (List av):=(J3 l p1).bind fun x=>eY 48 l [x]
def bd (p0:(List Int)):Option (List Int):=eY 8 [] p0
def od (l:List av) (p1:Int) (p2:Int):Option (List av):=((Bl av.mk (fun x=>x.aN) (fun x=>x.aU)) l (p1,p2)).bind fun x=>eY 48 l [x]
def tU (p1:(List ByteArray)) (p2:(List Int)) (p3:(List Int)):(Int)→Option ((Int)⊕((Unit)⊕(az×Int×(List Int)×Int)))
 | s43b =>
  if decide (s43b<(p1.length:Int)) then
   (P.idx p1 s43b).bind fun x14 =>
   (P.idx p2 s43b).bind fun x15 =>
   (P.idx p3 s43b).bind fun x16 =>
   (mH x14 x15 x16).bind fun r17 =>
   (dp (az.mk ([r17]))).bind fun r19 =>
   if (!r19) then
    some (.inr (.inr ((az.mk ([])),(-1),[],1)))
   else
    some (.inl (IntKind.i64.wrap (s43b+1)))
  else
   some (.inr (.inl ()))
def tV (p1:(List ByteArray)) (p2:(List Int)) (p3:(List Int)):(Int×(List Int)×(List av))→Option ((Int×(List Int)×(List av))⊕(((List Int)×(List av))))
 | (s85d,l10d,l1000014d) =>
  if decide (s85d<(p1.length:Int)) then
   (P.idx p1 s85d).bind fun x35 =>
   (P.idx p2 s85d).bind fun x36 =>
   (P.idx p3 s85d).bind fun x37 =>
   (mH x35 x36 x37).bind fun r38 =>
   (oU l1000014d r38).bind fun x39 =>
   (eY 8 l10d [(l1000014d.length:Int)]).bind fun x41 =>
   some (.inl (IntKind.i64.wrap (s85d+1),x41,x39))
  else
   some (.inr (l10d,l1000014d))
def tX (l16e:(List Int)):(Int×(List Int)×(List av))→Option ((Int×(List Int)×(List av))⊕(((List Int)×(List av))))
 | (s18g,l17g,l1000014g) =>
  if decide ((IntKind.i64.wrap (s18g+1))<((l16e).length:Int)) then
   (P.idx l16e s18g).bind fun x77 =>
   (P.idx l16e (IntKind.i64.wrap (s18g+1))).bind fun x78 =>
   (od l1000014g x77 x78).bind fun x79 =>
   (eY 8 l17g [(l1000014g.length:Int)]).bind fun x81 =>
   some (.inl (IntKind.i64.wrap (s18g+2),x81,x79))
  else
   some (.inr (l17g,l1000014g))
def tW:((List Int)×(List av))→Option (((List Int)×(List av))⊕(((List Int)×(List av))))
 | (l16e,l1000014e) =>
  if decide (((l16e).length:Int)>1) then
   (aJ (tX l16e) (0,[],l1000014e)).bind fun q=>match q with
   | (l17gx,l1000014gx) =>
    (vD .i64 ((l16e).length:Int) 2).bind fun x83 =>
    if (x83==1) then
     (P.idx l16e (IntKind.i64.wrap (((l16e).length:Int)-1))).bind fun x86 =>
     (eY 8 l17gx [x86]).bind fun x87 =>
     some (.inl (x87,l1000014gx))
    else
     some (.inl (l17gx,l1000014gx))
  else
   some (.inr (l16e,l1000014e))
def kI (p0:az) (p1:(List ByteArray)) (p2:(List Int)) (p3:(List Int)):Option (az×Int×(List Int)×Int) :=
 (dp p0).bind fun r1 =>
 (if (!r1) then
  some true
 else
  if ((p1.length:Int)==0) then
   some true
  else
   if ((p2.length:Int) != (p1.length:Int)) then
    some true
   else
    some ((p3.length:Int) != (p1.length:Int))).bind fun s39j1 =>
 if s39j1 then
  some ((az.mk ([])),(-1),[],1)
 else
  (aJ (tU p1 p2 p3) 0).bind fun q=>match q with
  | (.inl _) =>
   (if decide ((p1.length:Int)>64) then
    some true
   else
    some (decide ((IntKind.i64.wrap ((IntKind.i64.wrap ((p0.ak.length:Int)+(IntKind.i64.wrap (2*(p1.length:Int)))))-1))>2000))).bind fun s76j3 =>
   if s76j3 then
    some ((az.mk ([])),(-1),[],6)
   else
    (dD p0.ak).bind fun r23 =>
    (aJ (tV p1 p2 p3) (0,[],r23)).bind fun q=>match q with
    | (l10dx,l1000014dx) =>
     (bd l10dx).bind fun r43 =>
     (aJ (tW) (r43,l1000014dx)).bind fun q=>match q with
     | (l16ex,l1000014ex) =>
      (P.idx l16ex 0).bind fun x89 =>
      some ((az.mk l1000014ex),x89,l10dx,0)
  | (.inr rb) =>
   some rb
def qA (p0:(List Int)) (p1:(List Int)):(Int)→Option ((Int)⊕((Unit)⊕(Bool)))
 | s5a =>
  if decide (s5a<(p0.length:Int)) then
   (P.idx p0 s5a).bind fun x8 =>
   (P.idx p1 s5a).bind fun x9 =>
   if (x8 != x9) then
    some (.inr (.inr false))
   else
    some (.inl (IntKind.i64.wrap (s5a+1)))
  else
   some (.inr (.inl ()))
def fh (p0:(List Int)) (p1:(List Int)):Option (Bool) :=
 if ((p0.length:Int) != (p1.length:Int)) then
  some false
 else
  (aJ (qA p0 p1) 0).bind fun q=>match q with
  | (.inl _) =>
   some true
  | (.inr ra) =>
   some ra
def yp (p0:(List Int)):(Int)→Option ((Int)⊕((Int)))
 | s3a =>
  if decide (s3a>0) then
   (P.idx p0 (IntKind.i64.wrap (s3a-1))).bind fun x6 =>
   if (x6==0) then
    some (.inl (IntKind.i64.wrap (s3a-1)))
   else
    some (.inr s3a)
  else
   some (.inr s3a)
def ie (p0:(List Int)):Option ((List Int)) :=
 (aJ (yp p0) (p0.length:Int)).bind fun s3ax =>
 (yY p0 0 s3ax).bind fun x8 =>
 (eY 8 [] x8).bind fun _ =>
 some x8
def ic (p0:Int) (p1:(List Int)):Option (ay) :=
 (ie p1).bind fun r1 =>
 if ((r1.length:Int)==0) then
  some (ay.mk 0 ([]))
 else
  some (ay.mk p0 r1)
def EC:(Int×(List Int))→Option ((Int×(List Int))⊕(((List Int))))
 | (s0b,l4b) =>
  if (s0b != 0) then
   (vD .i64 s0b 1048576).bind fun x17 =>
   if decide (x17<0) then
    (eY 8 l4b [IntKind.i64.wrap (0-x17)]).bind fun x20 =>
    (zW .i64 s0b 1048576).bind fun x22 =>
    some (.inl (x22,x20))
   else
    (eY 8 l4b [x17]).bind fun x24 =>
    (zW .i64 s0b 1048576).bind fun x26 =>
    some (.inl (x26,x24))
  else
   some (.inr l4b)
def xh (p0:Int):Option (ay) :=
 if (p0==0) then
  some (ay.mk 0 ([]))
 else
  (if decide (p0<0) then
   some (-1)
  else
   some 1).bind fun s3j1 =>
  (aJ (EC) (p0,[])).bind fun l4bx =>
  (ic s3j1 l4bx).bind fun r28 =>
  some r28
def vT (p0:ay):(Int)→Option ((Int)⊕((Unit)⊕(Bool)))
 | s3a =>
  if decide (s3a<(p0.aa.length:Int)) then
   (P.idx p0.aa s3a).bind fun x7 =>
   if decide (x7<0) then
    some (.inr (.inr false))
   else
    if decide (x7≥1048576) then
     some (.inr (.inr false))
    else
     some (.inl (IntKind.i64.wrap (s3a+1)))
  else
   some (.inr (.inl ()))
def fG (p0:ay):Option (Bool) :=
 (aJ (vT p0) 0).bind fun q=>match q with
 | (.inl _) =>
  (if decide (p0.ah<(-1)) then
   some true
  else
   if decide (p0.ah>1) then
    some true
   else
    some (!(((p0.aa.length:Int)==0)==(p0.ah==0)))).bind fun s44j2 =>
  if s44j2 then
   some false
  else
   if ((p0.aa.length:Int)==0) then
    some true
   else
    (P.idx p0.aa (IntKind.i64.wrap ((p0.aa.length:Int)-1))).bind fun x13 =>
    some (x13 != 0)
 | (.inr ra) =>
  some ra
def sP (p0:ay):Option (ay) :=
 (fG p0).bind fun r1 =>
 if (!r1) then
  some (ay.mk 0 ([]))
 else
  (ic (IntKind.i64.wrap (0-p0.ah)) p0.aa).bind fun r3 =>
  some r3
def gG (p0:(List Int)) (p1:Int):Option (Int) :=
 if decide (p1<(p0.length:Int)) then
  (P.idx p0 p1).bind fun x2 =>
  some x2
 else
  some 0
def vW (p0:(List Int)) (p1:(List Int)) (s6a:Int):(Int×Int×(List Int))→Option ((Int×Int×(List Int))⊕(((List Int))))
 | (s7e,s8e,l5e) =>
  (if decide (s8e<(p1.length:Int)) then
   some true
  else
   some (decide (s7e>0))).bind fun s29j7 =>
  if s29j7 then
   (P.idx l5e (IntKind.i64.wrap (s6a+s8e))).bind fun x43 =>
   (P.idx p0 s6a).bind fun x44 =>
   (gG p1 s8e).bind fun r45 =>
   (vD .i64 (IntKind.i64.wrap ((IntKind.i64.wrap (x43+(IntKind.i64.wrap (x44*r45))))+s7e)) 1048576).bind fun x46 =>
   (zW .i64 (IntKind.i64.wrap ((IntKind.i64.wrap (x43+(IntKind.i64.wrap (x44*r45))))+s7e)) 1048576).bind fun x49 =>
   some (.inl (x49,IntKind.i64.wrap (s8e+1),(l5e.set (IntKind.i64.wrap (s6a+s8e)).toNat x46)))
  else
   some (.inr l5e)
def vV (p0:(List Int)) (p1:(List Int)):(Int×(List Int))→Option ((Int×(List Int))⊕(((List Int))))
 | (s6a,l5a) =>
  if decide (s6a<(p0.length:Int)) then
   (aJ (vW p0 p1 s6a) (0,0,l5a)).bind fun l5ex =>
   some (.inl (IntKind.i64.wrap (s6a+1),l5ex))
  else
   some (.inr l5a)
def mF (p0:(List Int)) (p1:(List Int)):Option ((List Int)) :=
 (IU 8 (IntKind.i64.wrap ((p0.length:Int)+(p1.length:Int))) (IntKind.i64.wrap ((p0.length:Int)+(p1.length:Int))) 0).bind fun x1 =>
 (aJ (vV p0 p1) (0,x1)).bind fun l5ax =>
 (ie l5ax).bind fun r52 =>
 some r52
def yl (p0:(List Int)) (p1:(List Int)):(Int)→Option ((Int)⊕((Unit)⊕(Bool)))
 | s5a =>
  if decide (s5a≥0) then
   (gG p0 s5a).bind fun r7 =>
   (gG p1 s5a).bind fun r8 =>
   if (r7 != r8) then
    some (.inr (.inr (decide (r7<r8))))
   else
    some (.inl (IntKind.i64.wrap (s5a-1)))
  else
   some (.inr (.inl ()))
def sc (p0:(List Int)) (p1:(List Int)):Option (Bool) :=
 (aJ (yl p0 p1) (IntKind.i64.wrap ((if (p1.length:Int)>(p0.length:Int) then (p1.length:Int) else (p0.length:Int))-1))).bind fun q=>match q with
 | (.inl _) =>
  some false
 | (.inr ra) =>
  some ra
def vU (p0:(List Int)) (p1:(List Int)):(Int×Int×(List Int))→Option ((Int×Int×(List Int))⊕(((List Int))))
 | (s6a,s7a,l5a) =>
  if decide (s7a<(p0.length:Int)) then
   (P.idx p0 s7a).bind fun x11 =>
   (gG p1 s7a).bind fun r12 =>
   if decide ((IntKind.i64.wrap ((IntKind.i64.wrap (x11-r12))-s6a))<0) then
    (eY 8 l5a [IntKind.i64.wrap ((IntKind.i64.wrap ((IntKind.i64.wrap (x11-r12))-s6a))+1048576)]).bind fun x14 =>
    some (.inl (1,IntKind.i64.wrap (s7a+1),x14))
   else
    (eY 8 l5a [IntKind.i64.wrap ((IntKind.i64.wrap (x11-r12))-s6a)]).bind fun x16 =>
    some (.inl (0,IntKind.i64.wrap (s7a+1),x16))
  else
   some (.inr l5a)
def mE (p0:(List Int)) (p1:(List Int)):Option ((List Int)) :=
 (aJ (vU p0 p1) (0,0,[])).bind fun l5ax =>
 (ie l5ax).bind fun r18 =>
 some r18
def yn (p1:(List Int)) (r34:(List Int)):(Int×Int)→Option ((Int×Int)⊕((Int)))
 | (s9c,s10c) =>
  if decide ((IntKind.i64.wrap (s10c-s9c))>1) then
   (zW .i64 (IntKind.i64.wrap (s9c+s10c)) 2).bind fun x44 =>
   (mF p1 ([x44])).bind fun r47 =>
   (sc r34 r47).bind fun r48 =>
   if r48 then
    some (.inl (s9c,x44))
   else
    some (.inl (x44,s10c))
  else
   some (.inr s9c)
def ym (p0:(List Int)) (p1:(List Int)):((List Int)×Int×(List Int))→Option (((List Int)×Int×(List Int))⊕(((List Int)×(List Int))))
 | (s7a,s8a,l6a) =>
  if decide (s8a≥0) then
   (P.idx p0 s8a).bind fun x31 =>
   (eY 8 [x31] s7a).bind fun x32 =>
   (ie x32).bind fun r34 =>
   (aJ (yn p1 r34) (0,1048576)).bind fun s9cx =>
   (P.idx l6a s8a).bind fun x50 =>
   (ie ([s9cx])).bind fun r53 =>
   (mF p1 r53).bind fun r54 =>
   (mE r34 r54).bind fun r55 =>
   some (.inl (r55,IntKind.i64.wrap (s8a-1),(l6a.set (s8a).toNat s9cx)))
  else
   some (.inr (s7a,l6a))
def oR (p0:(List Int)) (p1:(List Int)):Option ((List Int)×(List Int)) :=
 (IU 8 (p0.length:Int) (p0.length:Int) 0).bind fun x1 =>
 (aJ (ym p0 p1) ([],IntKind.i64.wrap ((p0.length:Int)-1),x1)).bind fun q=>match q with
 | (s7ax,l6ax) =>
  (ie l6ax).bind fun r56 =>
  some (r56,s7ax)
def Bz:((List Int)×(List Int))→Option (((List Int)×(List Int))⊕(((List Int))))
 | (s6b,s7b) =>
  if decide ((s7b.length:Int)>0) then
   (oR s6b s7b).bind fun r8 =>
   some (.inl (s7b,r8.2))
  else
   some (.inr s6b)
def vS (p0:ay) (p1:ay):Option (ay×Int) :=
 (fG p0).bind fun r1 =>
 (if (!r1) then
  some true
 else
  (fG p1).bind fun r11 =>
  some (!r11)).bind fun s17j1 =>
 if s17j1 then
  some ((ay.mk 0 ([])),1)
 else
  (aJ (Bz) (p0.aa,p1.aa)).bind fun s6bx =>
  (ic 1 s6bx).bind fun r9 =>
  some (r9,0)
def yo (p0:(List Int)) (p1:(List Int)):(Int×Int×(List Int))→Option ((Int×Int×(List Int))⊕(((List Int))))
 | (s6a,s7a,l5a) =>
  (if decide (s7a<(p0.length:Int)) then
   some true
  else
   if decide (s7a<(p1.length:Int)) then
    some true
   else
    some (decide (s6a>0))).bind fun s22j3 =>
  if s22j3 then
   (gG p0 s7a).bind fun r16 =>
   (gG p1 s7a).bind fun r17 =>
   (vD .i64 (IntKind.i64.wrap ((IntKind.i64.wrap (r16+r17))+s6a)) 1048576).bind fun x18 =>
   (eY 8 l5a [x18]).bind fun x20 =>
   (zW .i64 (IntKind.i64.wrap ((IntKind.i64.wrap (r16+r17))+s6a)) 1048576).bind fun x22 =>
   some (.inl (x22,IntKind.i64.wrap (s7a+1),x20))
  else
   some (.inr l5a)
def sd (p0:(List Int)) (p1:(List Int)):Option ((List Int)) :=
 (aJ (yo p0 p1) (0,0,[])).bind fun l5ax =>
 (ie l5ax).bind fun r26 =>
 some r26
def sO (p0:ay) (p1:ay):Option (ay×ay×Int) :=
 (fG p0).bind fun r1 =>
 (if (!r1) then
  some true
 else
  (fG p1).bind fun r17 =>
  some (!r17)).bind fun s16j1 =>
 if s16j1 then
  some ((ay.mk 0 ([])),(ay.mk 0 ([])),1)
 else
  if (p1.ah==0) then
   some ((ay.mk 0 ([])),(ay.mk 0 ([])),15)
  else
   (oR p0.aa p1.aa).bind fun r5 =>
   (if decide ((IntKind.i64.wrap (p0.ah*p1.ah))≥0) then
    some true
   else
    some ((r5.2.length:Int)==0)).bind fun s42j2 =>
   if s42j2 then
    (ic (IntKind.i64.wrap (p0.ah*p1.ah)) r5.1).bind fun r8 =>
    (ic p0.ah r5.2).bind fun r9 =>
    some (r8,r9,0)
   else
    (sd r5.1 ([1])).bind fun r11 =>
    (ic (-1) r11).bind fun r12 =>
    (mE p1.aa r5.2).bind fun r13 =>
    (ic p1.ah r13).bind fun r14 =>
    some (r12,r14,0)
def vX (p0:ay) (p1:ay):Option (ba×Int) :=
 (fG p0).bind fun r1 =>
 (if (!r1) then
  some true
 else
  (fG p1).bind fun r13 =>
  some (!r13)).bind fun s21j1 =>
 if s21j1 then
  some ((ba.mk (ay.mk 0 ([])) (ay.mk 0 ([]))),1)
 else
  if (p1.ah==0) then
   some ((ba.mk (ay.mk 0 ([])) (ay.mk 0 ([]))),15)
  else
   (if decide (p1.ah<0) then
    (sP p0).bind fun r10 =>
    (sP p1).bind fun r11 =>
    some (r10.ah,r10.aa,r11.ah,r11.aa)
   else
    some (p0.ah,p0.aa,p1.ah,p1.aa)).bind fun q=>match q with
   | (r2_0j2,r2_1j2,r3_0j2,r3_1j2) =>
    (vS (ay.mk r2_0j2 r2_1j2) (ay.mk r3_0j2 r3_1j2)).bind fun r6 =>
    (sO (ay.mk r2_0j2 r2_1j2) r6.1).bind fun r7 =>
    (sO (ay.mk r3_0j2 r3_1j2) r6.1).bind fun r8 =>
    some ((ba.mk r7.1 r8.1),0)
def BA (p0:Int) (p1:Int):Option (ba×Int) :=
 (xh p0).bind fun r1 =>
 (xh p1).bind fun r2 =>
 (vX r1 r2).bind fun r3 =>
 some (r3.1,r3.2)
def sQ (p0:Int):Option (ba) :=
 (BA p0 1).bind fun r1 =>
 some r1.1
def fR (p0:Int) (p1:Int):Option (gx) :=
 (sQ p0).bind fun r1 =>
 (sQ p1).bind fun r2 =>
 some (gx.mk r1 r2)
def l7 (p0:ay):(Int)→Option ((Int)⊕((Unit)⊕(Bool)))
 | s12a =>
  if decide (s12a<(p0.aa.length:Int)) then
   (P.idx p0.aa s12a).bind fun x7 =>
   if decide (x7<0) then
    some (.inr (.inr false))
   else
    if decide (x7>1048575) then
     some (.inr (.inr false))
    else
     some (.inl (IntKind.i64.wrap (s12a+1)))
  else
   some (.inr (.inl ()))
def dH (p0:ay):Option (Bool) :=
 (aJ (l7 p0) 0).bind fun q=>match q with
 | (.inl _) =>
  if ((p0.aa.length:Int)==0) then
   some (p0.ah==0)
  else
   if (p0.ah==1) then
    (P.idx p0.aa (IntKind.i64.wrap ((p0.aa.length:Int)-1))).bind fun x12 =>
    some (x12 != 0)
   else
    if (p0.ah==(-1)) then
     (P.idx p0.aa (IntKind.i64.wrap ((p0.aa.length:Int)-1))).bind fun x14 =>
     some (x14 != 0)
    else
     some false
 | (.inr ra) =>
  some ra
def e9 (p0:Bool) (p1:ay):Option (ay×Int) :=
 if (!p0) then
  some ((ay.mk 0 ([])),1)
 else
  some (p1,0)
def ir (p0:Int):Option (Bool) :=
 some (p0 != p0)
def fb (p0:Int) (p1:Int):Option (Int) :=
 (ir p0).bind fun r1 =>
 (ir p1).bind fun r2 =>
 if r1 then
  if r2 then
   some 0
  else
   some (-1)
 else
  if r2 then
   some 1
  else
   if decide (p0<p1) then
    some (-1)
   else
    if decide (p0>p1) then
     some 1
    else
     some 0
def jR (p0:(List Int)) (p1:(List Int)):(Int)→Option ((Int)⊕((Unit)⊕(Int)))
 | s5a =>
  if decide (s5a≥0) then
   (P.idx p0 s5a).bind fun x10 =>
   (P.idx p1 s5a).bind fun x11 =>
   if (x10 != x11) then
    (fb x10 x11).bind fun r13 =>
    some (.inr (.inr r13))
   else
    some (.inl (IntKind.i64.wrap (s5a-1)))
  else
   some (.inr (.inl ()))
def eE (p0:(List Int)) (p1:(List Int)):Option (Int) :=
 if ((p0.length:Int) != (p1.length:Int)) then
  (fb (p0.length:Int) (p1.length:Int)).bind fun r2 =>
  some r2
 else
  (aJ (jR p0 p1) (IntKind.i64.wrap ((p0.length:Int)-1))).bind fun q=>match q with
  | (.inl _) =>
   some 0
  | (.inr ra) =>
   some ra
def lq (p0:(List Int)):(Int)→Option ((Int)⊕((Int)))
 | s3a =>
  if decide (s3a>0) then
   (P.idx p0 (IntKind.i64.wrap (s3a-1))).bind fun x6 =>
   if (x6==0) then
    some (.inl (IntKind.i64.wrap (s3a-1)))
   else
    some (.inr s3a)
  else
   some (.inr s3a)
def ee (p0:(List Int)):Option ((List Int)) :=
 (aJ (lq p0) (p0.length:Int)).bind fun s3ax =>
 (yY p0 0 s3ax).bind fun x8 =>
 some x8
def l9 (p0:(List Int)) (p1:Int):(Int×Int×(List Int))→Option ((Int×Int×(List Int))⊕((Int×(List Int))))
 | (s7a,s8a,l6a) =>
  if decide (s8a≥0) then
   (CS .i64 s7a 20).bind fun x15 =>
   (P.idx p0 s8a).bind fun x17 =>
   (zW .i64 (ot .or .i64 x15 x17) p1).bind fun x18 =>
   (P.idx l6a s8a).bind fun x20 =>
   (vD .i64 (ot .or .i64 x15 x17) p1).bind fun x22 =>
   some (.inl (x22,IntKind.i64.wrap (s8a-1),(l6a.set (s8a).toNat x18)))
  else
   some (.inr (s7a,l6a))
def jt (p0:(List Int)) (p1:Int):Option ((List Int)×Int) :=
 (IU 8 (p0.length:Int) (p0.length:Int) 0).bind fun x1 =>
 (aJ (l9 p0 p1) (0,IntKind.i64.wrap ((p0.length:Int)-1),x1)).bind fun q=>match q with
 | (s7ax,l6ax) =>
  (ee l6ax).bind fun r24 =>
  some (r24,s7ax)
def pt (p1:(List Int)) (s20a:Int) (x22:Int):(Int×Int×(List Int))→Option ((Int×Int×(List Int))⊕((Int×(List Int))))
 | (s8c,s27c,l5c) =>
  if decide (s27c<(p1.length:Int)) then
   (P.idx p1 s27c).bind fun x31 =>
   (P.idx l5c (IntKind.i64.wrap (s20a+s27c))).bind fun x32 =>
   (BU .i64 (IntKind.i64.wrap ((IntKind.i64.wrap (x32+(IntKind.i64.wrap (x22*x31))))+s8c)) 20).bind fun x33 =>
   some (.inl (x33,IntKind.i64.wrap (s27c+1),(l5c.set (IntKind.i64.wrap (s20a+s27c)).toNat (ot .and .i64 (IntKind.i64.wrap ((IntKind.i64.wrap (x32+(IntKind.i64.wrap (x22*x31))))+s8c)) 1048575))))
  else
   some (.inr (s8c,l5c))
def pr (p0:(List Int)) (p1:(List Int)):(Int×(List Int))→Option ((Int×(List Int))⊕(((List Int))))
 | (s20a,l5a) =>
  if decide (s20a<(p0.length:Int)) then
   (P.idx p0 s20a).bind fun x22 =>
   (aJ (pt p1 s20a x22) (0,0,l5a)).bind fun q=>match q with
   | (s8cx,l5cx) =>
    (P.idx l5cx (IntKind.i64.wrap (s20a+(p1.length:Int)))).bind fun x36 =>
    some (.inl (IntKind.i64.wrap (s20a+1),(l5cx.set (IntKind.i64.wrap (s20a+(p1.length:Int))).toNat (IntKind.i64.wrap (x36+s8cx)))))
  else
   some (.inr l5a)
def l8 (p0:(List Int)) (p1:(List Int)):Option ((List Int)) :=
 (IU 8 (IntKind.i64.wrap ((p0.length:Int)+(p1.length:Int))) (IntKind.i64.wrap ((p0.length:Int)+(p1.length:Int))) 0).bind fun x1 =>
 (aJ (pr p0 p1) (0,x1)).bind fun l5ax =>
 (ee l5ax).bind fun r39 =>
 some r39
def iX (p0:(List Int)) (p1:(List Int)) (p2:Int):(Int×Int×(List Int))→Option ((Int×Int×(List Int))⊕((Int×(List Int))))
 | (s7a,s14a,l0a) =>
  if decide (s14a<((p0).length:Int)) then
   (P.idx l0a s14a).bind fun x11 =>
   (if decide (s14a<(p1.length:Int)) then
    (P.idx p1 s14a).bind fun x17 =>
    some (IntKind.i64.wrap ((IntKind.i64.wrap (x11-s7a))-(IntKind.i64.wrap (p2*x17))))
   else
    some (IntKind.i64.wrap (x11-s7a))).bind fun s9j3 =>
   (BU .i64 s9j3 20).bind fun x14 =>
   some (.inl (IntKind.i64.wrap (0-x14),IntKind.i64.wrap (s14a+1),(l0a.set (s14a).toNat (ot .and .i64 s9j3 1048575))))
  else
   some (.inr (s7a,l0a))
def iY (p1:(List Int)) (l0ax:(List Int)):(Int×Int×(List Int))→Option ((Int×Int×(List Int))⊕(((List Int))))
 | (s10d,s49d,l0d) =>
  if decide (s49d<((l0ax).length:Int)) then
   (P.idx l0d s49d).bind fun x29 =>
   (if decide (s49d<(p1.length:Int)) then
    (P.idx p1 s49d).bind fun x35 =>
    some (IntKind.i64.wrap ((IntKind.i64.wrap (s10d+x29))+x35))
   else
    some (IntKind.i64.wrap (s10d+x29))).bind fun s10j6 =>
   (BU .i64 s10j6 20).bind fun x32 =>
   some (.inl (x32,IntKind.i64.wrap (s49d+1),(l0d.set (s49d).toNat (ot .and .i64 s10j6 1048575))))
  else
   some (.inr l0d)
def mP (p0:(List Int)) (p1:(List Int)) (p2:Int):Option ((List Int)×(Int)) :=
 (aJ (iX p0 p1 p2) (0,0,p0)).bind fun q=>match q with
 | (s7ax,l0ax) =>
  if (s7ax==0) then
   some (l0ax,p2)
  else
   (aJ (iY p1 l0ax) (0,0,l0ax)).bind fun l0dx =>
   some (l0dx,IntKind.i64.wrap (p2-1))
def eA (p0:(List Int)) (p1:(List Int)) (p2:Int):Option ((List Int)×(Int)):=(mP p0 p1 p2).bind fun r=>if r.1.length=p0.length then some r else none
theorem w6 {p0:(List Int)} {p1:(List Int)} {p2:Int} {r:(List Int)×(Int)} (h:eA p0 p1 p2=some r):r.1.length=p0.length:=by
 unfold eA at h
 obtain⟨q,hq,h⟩:=ae h
 split at h
 ·cases h;assumption
 ·cases h
def pn (p1:(List Int)):(Int)→Option ((Int)⊕((Int)))
 | s8a =>
  (P.idx p1 (IntKind.i64.wrap ((p1.length:Int)-1))).bind fun x12 =>
  if decide ((IntKind.i64.wrap (x12*s8a))<524288) then
   some (.inl (IntKind.i64.wrap (s8a*2)))
  else
   some (.inr s8a)
def pq (r19:(List Int)) (s13c:Int) (l9c:(List Int)) (x64:Int):(Int×Int)→Option ((Int×Int)⊕((Int)))
 | (s15g,s16g) =>
  (if decide (s15g≥1048576) then
   some true
  else
   if decide (s16g<1048576) then
    (P.idx r19 (IntKind.i64.wrap (((r19).length:Int)-2))).bind fun x83 =>
    (CS .i64 s16g 20).bind fun x84 =>
    (P.idx l9c (IntKind.i64.wrap ((IntKind.i64.wrap (s13c+((r19).length:Int)))-2))).bind fun x86 =>
    some (decide ((IntKind.i64.wrap (s15g*x83))>(ot .or .i64 x84 x86)))
   else
    some false).bind fun s137j9 =>
  if s137j9 then
   some (.inl (IntKind.i64.wrap (s15g-1),IntKind.i64.wrap (s16g+x64)))
  else
   some (.inr s15g)
def po (r19:(List Int)):(Int×(List Int)×(List Int))→Option ((Int×(List Int)×(List Int))⊕(((List Int)×(List Int))))
 | (s13c,l9c,l12c) =>
  if decide (s13c≥0) then
   (P.idx l9c (IntKind.i64.wrap (s13c+((r19).length:Int)))).bind fun x60 =>
   (CS .i64 x60 20).bind fun x61 =>
   (P.idx l9c (IntKind.i64.wrap ((IntKind.i64.wrap (s13c+((r19).length:Int)))-1))).bind fun x63 =>
   (P.idx r19 (IntKind.i64.wrap (((r19).length:Int)-1))).bind fun x64 =>
   (zW .i64 (ot .or .i64 x61 x63) x64).bind fun x65 =>
   (vD .i64 (ot .or .i64 x61 x63) x64).bind fun x67 =>
   (aJ (pq r19 s13c l9c x64) (x65,x67)).bind fun s15gx =>
   (yY l9c s13c (IntKind.i64.wrap ((IntKind.i64.wrap (s13c+((r19).length:Int)))+1))).bind fun x87 =>
   (eA x87 r19 s15gx).bind fun r90 =>
   (P.idx l12c s13c).bind fun x92 =>
   some (.inl (IntKind.i64.wrap (s13c-1),(l9c.take (s13c).toNat++(r90.1++l9c.drop (IntKind.i64.wrap ((IntKind.i64.wrap (s13c+((r19).length:Int)))+1)).toNat)),(l12c.set (s13c).toNat r90.2)))
  else
   some (.inr (l9c,l12c))
def pk (p0:(List Int)) (p1:(List Int)):Option ((List Int)×(List Int)) :=
 (eE p0 p1).bind fun r1 =>
 if decide (r1<0) then
  (bd p0).bind fun r3 =>
  some ([],r3)
 else
  if ((p1.length:Int)==1) then
   (P.idx p1 0).bind fun x5 =>
   (jt p0 x5).bind fun r6 =>
   (ee ([r6.2])).bind fun r8 =>
   some (r6.1,r8)
  else
   (aJ (pn p1) 1).bind fun s8ax =>
   (l8 p0 ([s8ax])).bind fun r15 =>
   (eY 8 r15 [0]).bind fun x16 =>
   (l8 p1 ([s8ax])).bind fun r19 =>
   (if (((x16).length:Int)==(p0.length:Int)) then
    (eY 8 x16 [0]).bind fun x98 =>
    some x98
   else
    some x16).bind fun l9j2 =>
   (IU 8 (IntKind.i64.wrap (((l9j2).length:Int)-((r19).length:Int))) (IntKind.i64.wrap (((l9j2).length:Int)-((r19).length:Int))) 0).bind fun x21 =>
   (aJ (po r19) (IntKind.i64.wrap (((x21).length:Int)-1),l9j2,x21)).bind fun q=>match q with
   | (l9cx,l12cx) =>
    (ee l9cx).bind fun r94 =>
    (jt r94 s8ax).bind fun r95 =>
    (ee l12cx).bind fun r96 =>
    some (r96,r95.1)
def fq (p0:Int) (p1:(List Int)):Option (ay) :=
 (ee p1).bind fun r1 =>
 if ((r1.length:Int)==0) then
  some (ay.mk 0 ([]))
 else
  some (ay.mk p0 r1)
def mO:((List Int)×(List Int))→Option (((List Int)×(List Int))⊕(((List Int))))
 | (s6b,s7b) =>
  if decide ((s7b.length:Int)>0) then
   (pk s6b s7b).bind fun r11 =>
   some (.inl (s7b,r11.2))
  else
   some (.inr s6b)
def pf (p0:ay) (p1:ay):Option (ay×Int) :=
 (dH p0).bind fun r1 =>
 (if (!r1) then
  some true
 else
  (dH p1).bind fun r16 =>
  some (!r16)).bind fun s17j1 =>
 if s17j1 then
  (e9 false (ay.mk 0 ([]))).bind fun r5 =>
  some (r5.1,r5.2)
 else
  (bd p0.aa).bind fun r6 =>
  (aJ (mO) (r6,p1.aa)).bind fun s6bx =>
  (bd s6bx).bind fun r12 =>
  (fq 1 r12).bind fun r13 =>
  (e9 true r13).bind fun r14 =>
  some (r14.1,r14.2)
def pj (p0:ay):(Int×Int)→Option ((Int×Int)⊕((Int)⊕(Int×Bool)))
 | (s4b,s19b) =>
  if decide (s19b<(p0.aa.length:Int)) then
   (P.idx p0.aa s19b).bind fun x13 =>
   (if (s19b==3) then
    some (decide (x13>8))
   else
    some false).bind fun s29j4 =>
   if s29j4 then
    some (.inr (.inr (0,false)))
   else
    (CS .u64 (IntKind.u64.wrap x13) (IntKind.i64.wrap (20*s19b))).bind fun x16 =>
    some (.inl (ot .or .u64 s4b x16,IntKind.i64.wrap (s19b+1)))
  else
   some (.inr (.inl s4b))
def pg (p0:ay):Option (Int×Bool) :=
 (dH p0).bind fun r1 =>
 (if (!r1) then
  some true
 else
  some (decide ((p0.aa.length:Int)>4))).bind fun s15j1 =>
 if s15j1 then
  some (0,false)
 else
  (aJ (pj p0) (0,0)).bind fun q=>match q with
  | (.inl s4bx) =>
   (if decide (p0.ah<0) then
    some (decide (s4bx≤9223372036854775808))
   else
    some false).bind fun s38j5 =>
   if s38j5 then
    some (IntKind.i64.wrap (IntKind.u64.wrap (0-s4bx)),true)
   else
    if decide (p0.ah≥0) then
     if decide (s4bx<9223372036854775808) then
      some (IntKind.i64.wrap s4bx,true)
     else
      some (0,false)
    else
     some (0,false)
  | (.inr rb) =>
   some rb
def nd (p0:ay):Option (Bool) :=
 (pg p0).bind fun r1 =>
 if r1.2 then
  some (r1.1==1)
 else
  some false
def eR (p0:ba):Option (Bool) :=
 (dH p0.cH).bind fun r1 =>
 (if (!r1) then
  some true
 else
  (dH p0.cB).bind fun r8 =>
  if (!r8) then
   some true
  else
   some (p0.cB.ah != 1)).bind fun s20j1 =>
 if s20j1 then
  some false
 else
  (pf p0.cH p0.cB).bind fun r4 =>
  if (r4.2==0) then
   (nd r4.1).bind fun r6 =>
   some r6
  else
   some false
def uO (p0:ay) (p1:ay):Option (ay×Int) :=
 (dH p0).bind fun r1 =>
 (if (!r1) then
  some true
 else
  (dH p1).bind fun r10 =>
  some (!r10)).bind fun s13j1 =>
 if s13j1 then
  (e9 false (ay.mk 0 ([]))).bind fun r5 =>
  some (r5.1,r5.2)
 else
  (l8 p0.aa p1.aa).bind fun r6 =>
  (fq (IntKind.i64.wrap (p0.ah*p1.ah)) r6).bind fun r7 =>
  (e9 true r7).bind fun r8 =>
  some (r8.1,r8.2)
def kA (p0:ay) (p1:ay):Option (ay) :=
 (uO p0 p1).bind fun r1 =>
 some r1.1
def lp (p0:ay) (p1:ay):Option (Int) :=
 (dH p0).bind fun r1 =>
 (if (!r1) then
  some true
 else
  (dH p1).bind fun r8 =>
  some (!r8)).bind fun s12j1 =>
 if s12j1 then
  some 0
 else
  if (p0.ah != p1.ah) then
   (fb p0.ah p1.ah).bind fun r5 =>
   some r5
  else
   (eE p0.aa p1.aa).bind fun r6 =>
   some (IntKind.i64.wrap (p0.ah*r6))
def gi (p0:ba) (p1:ba):Option (Int) :=
 (eR p0).bind fun r1 =>
 (if (!r1) then
  some true
 else
  (eR p1).bind fun r8 =>
  some (!r8)).bind fun s12j1 =>
 if s12j1 then
  some 0
 else
  (kA p0.cH p1.cB).bind fun r4 =>
  (kA p1.cH p0.cB).bind fun r5 =>
  (lp r4 r5).bind fun r6 =>
  some r6
def kG (p0:gx):Option (Bool) :=
 (eR p0.bz).bind fun r1 =>
 if r1 then
  (eR p0.aY).bind fun r3 =>
  if r3 then
   (gi p0.bz p0.aY).bind fun r5 =>
   some (decide (r5≤0))
  else
   some false
 else
  some false
def iM (p0:aK):Option (Bool) :=
 (kG p0.cc).bind fun r1 =>
 some (!r1)
def gz (p0:Int):Option (Int) :=
 (if decide (p0≥4294967296) then
  (BU .u64 p0 32).bind fun x14 =>
  some (x14,32)
 else
  some (p0,0)).bind fun q=>match q with
 | (s0j1,s2j1) =>
  (if decide (s0j1≥65536) then
   (BU .u64 s0j1 16).bind fun x11 =>
   some (x11,IntKind.i64.wrap (s2j1+16))
  else
   some (s0j1,s2j1)).bind fun q=>match q with
  | (s0j2,s2j2) =>
   if decide (s0j2≥256) then
    (BU .u64 s0j2 8).bind fun x4 =>
    (P.SF UF (IntKind.u8.wrap x4)).bind fun x6 =>
    some (IntKind.i64.wrap ((IntKind.i64.wrap (s2j2+8))+(IntKind.i64.wrap x6)))
   else
    (P.SF UF (IntKind.u8.wrap s0j2)).bind fun x8 =>
    some (IntKind.i64.wrap (s2j2+(IntKind.i64.wrap x8)))
def iP (p0:Int):Option (Int) :=
 (gz p0).bind fun r1 =>
 some r1
def rf (p0:Int) (p1:Int):Option (Bool) :=
 (ir p0).bind fun r1 =>
 if r1 then
  (ir p1).bind fun r3 =>
  if (!r3) then
   some true
  else
   some (decide (p0<p1))
 else
  some (decide (p0<p1))
def fk (p1:Int):(Int×(List Int))→Option ((Int×(List Int))⊕(((List Int))))
 | (s7e,l0e) =>
  (if decide (s7e>p1) then
   (P.idx l0e s7e).bind fun x47 =>
   (P.idx l0e (IntKind.i64.wrap (s7e-1))).bind fun x48 =>
   (rf x47 x48).bind fun r49 =>
   some r49
  else
   some false).bind fun s30j7 =>
  if s30j7 then
   (P.idx l0e (IntKind.i64.wrap (s7e-1))).bind fun x41 =>
   (P.idx l0e s7e).bind fun x42 =>
   (P.idx (l0e.set (s7e).toNat x41) (IntKind.i64.wrap (s7e-1))).bind fun x44 =>
   some (.inl (IntKind.i64.wrap (s7e-1),((l0e.set (s7e).toNat x41).set (IntKind.i64.wrap (s7e-1)).toNat x42)))
  else
   some (.inr l0e)
def fj (p1:Int) (p2:Int):(Int×(List Int))→Option ((Int×(List Int))⊕(((List Int))))
 | (s6a,l0a) =>
  if decide (s6a<p2) then
   (aJ (fk p1) (s6a,l0a)).bind fun l0ex =>
   some (.inl (IntKind.i64.wrap (s6a+1),l0ex))
  else
   some (.inr l0a)
def fv (p0:(List Int)) (p1:Int) (p2:Int):Option ((List Int)×(Unit)) :=
 (aJ (fj p1 p2) (IntKind.i64.wrap (p1+1),p0)).bind fun l0ax =>
 some (l0ax,())
def bA (p0:(List Int)) (p1:Int) (p2:Int):Option ((List Int)×(Unit)):=(fv p0 p1 p2).bind fun r=>if r.1.length=p0.length then some r else none
theorem jF {p0:(List Int)} {p1:Int} {p2:Int} {r:(List Int)×(Unit)} (h:bA p0 p1 p2=some r):r.1.length=p0.length:=by
 unfold bA at h
 obtain⟨q,hq,h⟩:=ae h
 split at h
 ·cases h;assumption
 ·cases h
def ik (p0:(List Int)) (p1:Int) (p2:Int) (p3:Int):(Unit)→Option ((Unit)⊕(((List Int)×(Unit))))
 | _ =>
  if decide ((IntKind.i64.wrap (p2-p1))≤12) then
   (bA p0 p1 p2).bind fun r9 =>
   some (.inr (r9.1,()))
  else
   if (p3==0) then
    none
   else
    none
def iH (p0:(List Int)) (p1:Int) (p2:Int) (p3:Int):Option ((List Int)×(Unit)) :=
 (aJ (ik p0 p1 p2 p3) ()).bind fun ra =>
 some ra
def cf (p0:(List Int)) (p1:Int) (p2:Int) (p3:Int):Option ((List Int)×(Unit)):=(iH p0 p1 p2 p3).bind fun r=>if r.1.length=p0.length then some r else none
theorem mo {p0:(List Int)} {p1:Int} {p2:Int} {p3:Int} {r:(List Int)×(Unit)} (h:cf p0 p1 p2 p3=some r):r.1.length=p0.length:=by
 unfold cf at h
 obtain⟨q,hq,h⟩:=ae h
 split at h
 ·cases h;assumption
 ·cases h
def qD (p0:(List Int)):Option ((List Int)×(Unit)) :=
 (iP (IntKind.u64.wrap ((p0).length:Int))).bind fun r1 =>
 (cf p0 0 ((p0).length:Int) r1).bind fun r3 =>
 some (r3.1,())
def oB (p0:(List Int)):Option ((List Int)×(Unit)):=(qD p0).bind fun r=>if r.1.length=p0.length then some r else none
def jk (p0:(List Int)):Option ((List Int)×Unit):=if p0.length<4611686018427387904 then some (fl p0,()) else none
theorem A2 {p0:(List Int)} {r:(List Int)×Unit} (h:jk p0=some r):r.1.length=p0.length:=by
 unfold jk at h
 split at h
 ·cases h;exact eL p0
 ·cases h
def ij (p0:(List Int)):Option (List Int):=Mc p0
def fN (p0:(List Int)):Option (Bool) :=
 (bd p0).bind fun r1 =>
 (jk r1).bind fun r3 =>
 (ij r3.1).bind fun r6 =>
 some (decide (((r6).length:Int)<(p0.length:Int)))
def dZ (p0:bQ) (p1:Int):Option (Bool) :=
 some (p0.eu==p1)
def sh (p0:az) (p1:Int):Option (Bool) :=
 if decide (p1≥0) then
  some (decide (p1<(p0.ak.length:Int)))
 else
  some false
def tY (p0:az) (p1:(List Int)):(Int)→Option ((Int)⊕((Unit)⊕(Bool)))
 | s18b =>
  if decide (s18b<(p1.length:Int)) then
   (P.idx p1 s18b).bind fun x15 =>
   (sh p0 x15).bind fun r16 =>
   if (!r16) then
    some (.inr (.inr false))
   else
    if decide (s18b>0) then
     (P.idx p1 (IntKind.i64.wrap (s18b-1))).bind fun x19 =>
     (P.idx p0.ak x19).bind fun x20 =>
     if (x20.ca != x15) then
      if (x20.bK != x15) then
       some (.inr (.inr false))
      else
       some (.inl (IntKind.i64.wrap (s18b+1)))
     else
      some (.inl (IntKind.i64.wrap (s18b+1)))
    else
     some (.inl (IntKind.i64.wrap (s18b+1)))
  else
   some (.inr (.inl ()))
def nt (p0:az) (p1:(List Int)):Option (Bool) :=
 (dp p0).bind fun r1 =>
 (if (!r1) then
  some true
 else
  some ((p1.length:Int)==0)).bind fun s15j1 =>
 if s15j1 then
  some false
 else
  (aJ (tY p0 p1) 0).bind fun q=>match q with
  | (.inl _) =>
   some true
  | (.inr rb) =>
   some rb
def lL (p0:av):Option (Bool) :=
 some (p0.ca==(-1))
def eJ (p0:az) (p1:Int) (p2:ByteArray) (p3:Int) (p4:Int):Option (Bool) :=
 (dp p0).bind fun r1 =>
 (if (!r1) then
  some true
 else
  (dE p1 (IntKind.i64.wrap ((p0.ak.length:Int)-1))).bind fun r8 =>
  some (!r8)).bind fun s23j1 =>
 if s23j1 then
  some false
 else
  (P.idx p0.ak p1).bind fun x4 =>
  if (x4.ct.toList==p2.toList) then
   if (x4.aN==p3) then
    some (x4.aU==p4)
   else
    some false
  else
   some false
def ns (p0:az) (p1:(List Int)) (p2:Int) (p3:Int) (p4:ByteArray) (p5:Int) (p6:Int):Option (Bool) :=
 (nt p0 p1).bind fun r1 =>
 if (!r1) then
  some false
 else
  (P.idx p1 0).bind fun x3 =>
  (P.idx p0.ak x3).bind fun x4 =>
  (P.idx p1 (IntKind.i64.wrap ((p1.length:Int)-1))).bind fun x5 =>
  if (x4.aN==p2) then
   if (x4.aU==p3) then
    (P.idx p0.ak x5).bind fun x8 =>
    (lL x8).bind fun r9 =>
    if r9 then
     (eJ p0 x5 p4 p5 p6).bind fun r11 =>
     some r11
    else
     some false
   else
    some false
  else
   some false
def eZ (p0:jf) (p1:bQ):Option (Bool) :=
 if decide ((p1.kz.length:Int)>0) then
  (P.idx p1.kz 0).bind fun x2 =>
  if (x2==p0.wT) then
   (P.idx p1.kz (IntKind.i64.wrap ((p1.kz.length:Int)-1))).bind fun x4 =>
   if (x4==p1.eu) then
    (ns p0.Sh p1.kz p0.sw p0.su p1.ct p1.aN p1.aU).bind fun r6 =>
    some r6
   else
    some false
  else
   some false
 else
  some false
def C6:(Int×(List Int))→Option ((Int×(List Int))⊕(((List Int))))
 | (s4b,l5b) =>
  if decide (s4b>0) then
   (eY 8 l5b [IntKind.i64.wrap (ot .and .u64 s4b 1048575)]).bind fun x9 =>
   (BU .u64 s4b 20).bind fun x11 =>
   some (.inl (x11,x9))
  else
   some (.inr l5b)
def wL (p0:Int):Option (ay) :=
 (if decide (p0<0) then
  some ((-1),IntKind.u64.wrap (0-(IntKind.u64.wrap p0)))
 else
  some (1,IntKind.u64.wrap p0)).bind fun q=>match q with
 | (s3j1,s4j1) =>
  (aJ (C6) (s4j1,[])).bind fun l5bx =>
  (fq s3j1 l5bx).bind fun r13 =>
  some r13
def rF (p0:Int):Option (ba) :=
 (wL p0).bind fun r1 =>
 (wL 1).bind fun r2 =>
 some (ba.mk r1 r2)
def oS (p0:gx) (p1:ba):Option (Bool) :=
 (kG p0).bind fun r1 =>
 if r1 then
  (eR p1).bind fun r3 =>
  if r3 then
   (gi p0.bz p1).bind fun r5 =>
   if decide (r5≤0) then
    (gi p1 p0.aY).bind fun r7 =>
    some (decide (r7≤0))
   else
    some false
  else
   some false
 else
  some false
def ec (p0:aK) (p1:Int) (p2:ba):Option (Bool) :=
 if (p0.eu==p1) then
  (oS p0.cc p2).bind fun r2 =>
  some (!r2)
 else
  some false
def dw (p0:(List bQ)) (p1c0:Int):(Int)→Option ((Int)⊕((Unit)⊕(Int)))
 | s8a =>
  if decide (s8a<(p0.length:Int)) then
   (P.idx p0 s8a).bind fun x7 =>
   (dZ x7 p1c0).bind fun r8 =>
   if r8 then
    some (.inr (.inr s8a))
   else
    some (.inl (IntKind.i64.wrap (s8a+1)))
  else
   some (.inr (.inl ()))
def bo (p0:(List bQ)) (p1c0:Int):Option (Int) :=
 (aJ (dw p0 p1c0) 0).bind fun q=>match q with
 | (.inl _) =>
  some (-1)
 | (.inr ra) =>
  some ra
def dQ (p0:(List aK)) (p1c0:Int) (p1c1:ba):(Int)→Option ((Int)⊕((Unit)⊕(Int)))
 | s8a =>
  if decide (s8a<(p0.length:Int)) then
   (P.idx p0 s8a).bind fun x7 =>
   (ec x7 p1c0 p1c1).bind fun r8 =>
   if r8 then
    some (.inr (.inr s8a))
   else
    some (.inl (IntKind.i64.wrap (s8a+1)))
  else
   some (.inr (.inl ()))
def bE (p0:(List aK)) (p1c0:Int) (p1c1:ba):Option (Int) :=
 (aJ (dQ p0 p1c0 p1c1) 0).bind fun q=>match q with
 | (.inl _) =>
  some (-1)
 | (.inr ra) =>
  some ra
def bn (p0:(List aK)) (p1c0:Int) (p1c1:ba):Option (Bool) :=
 (bE p0 p1c0 p1c1).bind fun r1 =>
 some (decide (r1≥0))
def eO (p0:jf) (p1:Int) (p2:(List bQ)) (p3:(List aK)):Option (Int) :=
 (bo p2 p1).bind fun r1 =>
 if decide (r1<0) then
  some 0
 else
  (P.idx p2 r1).bind fun x3 =>
  (eZ p0 x3).bind fun r4 =>
  if (!r4) then
   some 1
  else
   (rF x3.aN).bind fun r6 =>
   (bn p3 p1 r6).bind fun r7 =>
   if r7 then
    some 2
   else
    some (-1)
def eV (p0:(List aK)):(Int)→Option ((Int)⊕((Unit)⊕(Int)))
 | s8a =>
  if decide (s8a<(p0.length:Int)) then
   (P.idx p0 s8a).bind fun x7 =>
   (iM x7).bind fun r8 =>
   if r8 then
    some (.inr (.inr s8a))
   else
    some (.inl (IntKind.i64.wrap (s8a+1)))
  else
   some (.inr (.inl ()))
def cd (p0:(List aK)):Option (Int) :=
 (aJ (eV p0) 0).bind fun q=>match q with
 | (.inl _) =>
  some (-1)
 | (.inr ra) =>
  some ra
def aH (p0:(List aK)):Option (Bool) :=
 (cd p0).bind fun r1 =>
 some (decide (r1≥0))
def jQ (p0:az) (p1:Int) (p2:Int) (p3:Int) (p4:(List Int)) (p5:(List bQ)) (p6:(List aK)):(Int×(List bt))→Option ((Int×(List bt))⊕(((List bt))))
 | (s49b,l17b) =>
  if decide (s49b<(p4.length:Int)) then
   (P.idx p4 s49b).bind fun x16 =>
   (eO (jf.mk p0 p1 p2 p3) x16 p5 p6).bind fun r17 =>
   if (r17 != (-1)) then
    (eY 16 l17b [(bt.mk x16 r17)]).bind fun x19 =>
    some (.inl (IntKind.i64.wrap (s49b+1),x19))
   else
    some (.inl (IntKind.i64.wrap (s49b+1),l17b))
  else
   some (.inr l17b)
def fM (p0:az) (p1:Int) (p2:Int) (p3:Int) (p4:(List Int)) (p5:(List bQ)) (p6:(List aK)):Option ((List bt)×Int) :=
 (dp p0).bind fun r1 =>
 (if (!r1) then
  some true
 else
  if decide (p1<0) then
   some true
  else
   some (decide (p1≥(p0.ak.length:Int)))).bind fun s21j1 =>
 if s21j1 then
  some ([],1)
 else
  (aH p6).bind fun r4 =>
  if r4 then
   some ([],1)
  else
   (fN p4).bind fun r6 =>
   if r6 then
    some ([],5)
   else
    (aJ (jQ p0 p1 p2 p3 p4 p5 p6) (0,[])).bind fun l17bx =>
    some (l17bx,0)
def lJ (p0:(List bt)) (p1:(List bt)):(Int)→Option ((Int)⊕((Unit)⊕(Bool)))
 | s5a =>
  if decide (s5a<(p0.length:Int)) then
   (P.idx p0 s5a).bind fun x8 =>
   (P.idx p1 s5a).bind fun x9 =>
   if (!((x8.eu==x9.eu)&&(x8.jU==x9.jU))) then
    some (.inr (.inr false))
   else
    some (.inl (IntKind.i64.wrap (s5a+1)))
  else
   some (.inr (.inl ()))
def np (p0:(List bt)) (p1:(List bt)):Option (Bool) :=
 if ((p0.length:Int) != (p1.length:Int)) then
  some false
 else
  (aJ (lJ p0 p1) 0).bind fun q=>match q with
  | (.inl _) =>
   some true
  | (.inr ra) =>
   some ra
def iN (p0:az) (p1:(List Int)) (p2:Int) (p3:(List aK)) (p4:(List bt)):Option (Bool) :=
 (fM p0 4 60 24 p1 ([(bQ.mk 1 ([4,3,1]) (ByteArray.mk #[98]) p2 8)]) p3).bind fun r2 =>
 if (r2.2==0) then
  (np r2.1 p4).bind fun r4 =>
  some r4
 else
  some false
def strconv_Itoa (p0:Int):Option ByteArray:=UO p0
def sY (p0:(List Int)):Option ByteArray:=MB p0
def gI (p0:(List Int)):Option (ByteArray) :=
 (sY p0).bind fun r1 =>
 some r1
def jA (p0:(List av)):Option (List av):=if p0.length≤maxLen then some p0 else none
def kJ (p0:az) (p1:av):Option (az×Int×Int) :=
 (dD p0.ak).bind fun r1 =>
 (jA r1).bind fun r2 =>
 (eY 48 r2 [p1]).bind fun x3 =>
 some ((az.mk x3),(p0.ak.length:Int),0)
def gq (p0:az) (p1:ByteArray) (p2:Int) (p3:Int):Option (az×Int×Int) :=
 (dp p0).bind fun r1 =>
 (if (!r1) then
  some true
 else
  (im (av.mk p1 p2 p3 (-1) (-1))).bind fun r7 =>
  some (!r7)).bind fun s16j1 =>
 if s16j1 then
  some ((az.mk ([])),(-1),1)
 else
  if decide ((p0.ak.length:Int)≥2000) then
   some ((az.mk ([])),(-1),6)
  else
   (kJ p0 (av.mk p1 p2 p3 (-1) (-1))).bind fun r5 =>
   some (r5.1,r5.2.1,r5.2.2)
def iU (p0:(List Int)) (p1:Int):(Int)→Option ((Int)⊕((Unit)⊕(Bool)))
 | s22b =>
  if decide (s22b<(p0.length:Int)) then
   (P.idx p0 s22b).bind fun x9 =>
   if decide (x9<0) then
    some (.inr (.inr false))
   else
    if decide (x9≥(IntKind.i64.wrap (p1-s22b))) then
     some (.inr (.inr false))
    else
     some (.inl (IntKind.i64.wrap (s22b+1)))
  else
   some (.inr (.inl ()))
def gp (p0:(List Int)) (p1:Int):Option (Bool) :=
 (if decide (p1<0) then
  some true
 else
  if decide (p1>1099511627776) then
   some true
  else
   some (decide ((p0.length:Int)>(if 100<p1 then 100 else p1)))).bind fun s19j1 =>
 if s19j1 then
  some false
 else
  (aJ (iU p0 p1) 0).bind fun q=>match q with
  | (.inl _) =>
   some true
  | (.inr rb) =>
   some rb
def iF (p1:Int) (x26:(List Int)):(Int×(List Int))→Option ((Int×(List Int))⊕(((List Int))))
 | (s53f,l8f) =>
  if decide (s53f<(x26.length:Int)) then
   (P.idx x26 s53f).bind fun x37 =>
   (P.idx l8f s53f).bind fun x38 =>
   (vD .i64 (IntKind.i64.wrap (x38+x37)) (IntKind.i64.wrap (p1-s53f))).bind fun x39 =>
   some (.inl (IntKind.i64.wrap (s53f+1),(l8f.set (s53f).toNat x39)))
  else
   some (.inr l8f)
def mC (p0:(List (List Int))) (p1:Int) (p2:Int):(Int×(List Int))→Option ((Int×(List Int))⊕(((List Int))⊕((List Int)×Int)))
 | (s37b,l8b) =>
  if decide (s37b<(p0.length:Int)) then
   (P.idx p0 s37b).bind fun x26 =>
   (if ((x26.length:Int) != p2) then
    some true
   else
    (gp x26 p1).bind fun r43 =>
    some (!r43)).bind fun s50j5 =>
   if s50j5 then
    some (.inr (.inr ([],1)))
   else
    (aJ (iF p1 x26) (0,l8b)).bind fun l8fx =>
    some (.inl (IntKind.i64.wrap (s37b+1),l8fx))
  else
   some (.inr (.inl l8b))
def kH (p0:(List (List Int))) (p1:Int) (p2:Int):Option ((List Int)×Int) :=
 (if decide (p2<0) then
  some true
 else
  if decide (p2>100) then
   some true
  else
   if decide (p1<p2) then
    some true
   else
    if decide (p1>1099511627776) then
     some true
    else
     some (decide ((p0.length:Int)>400))).bind fun s32j1 =>
 if s32j1 then
  some ([],1)
 else
  (IU 8 p2 p2 0).bind fun x3 =>
  (aJ (mC p0 p1 p2) (0,x3)).bind fun q=>match q with
  | (.inl l8bx) =>
   some (l8bx,0)
  | (.inr rb) =>
   some rb
def iT (p0:(List Int)):Option (List Int):=zk p0
def bF (p0:(List Int)):Option (List Int):=v7 p0
def il (p0:(List Int)):Option (Bool) :=
 (iT p0).bind fun r1 =>
 (bF r1).bind fun r2 =>
 (ij r2).bind fun r4 =>
 some (decide (((r4).length:Int)<(p0.length:Int)))
def kf (p0:az) (p1:(List Int)) (p2:(List (List Int))) (p3:(List Int)):(Int)→Option ((Int)⊕((Unit)⊕((List Int)×Int)))
 | s47b =>
  if decide (s47b<(p1.length:Int)) then
   (P.idx p1 s47b).bind fun x16 =>
   (P.idx p2 s47b).bind fun x17 =>
   (gI x17).bind fun r18 =>
   (P.idx p3 s47b).bind fun x19 =>
   (eJ p0 x16 r18 0 x19).bind fun r20 =>
   if (!r20) then
    some (.inr (.inr ([],22)))
   else
    some (.inl (IntKind.i64.wrap (s47b+1)))
  else
   some (.inr (.inl ()))
def jC (p0:az) (p1:(List Int)) (p2:(List (List Int))) (p3:(List Int)) (p4:Int) (p5:Int):Option ((List Int)×Int) :=
 (kH p2 p4 p5).bind fun r1 =>
 if (r1.2 != 0) then
  some ([],r1.2)
 else
  (if ((p1.length:Int) != (p2.length:Int)) then
   some true
  else
   some ((p3.length:Int) != (p2.length:Int))).bind fun s29j1 =>
  if s29j1 then
   some ([],2)
  else
   (il p1).bind fun r5 =>
   if r5 then
    some ([],5)
   else
    (aJ (kf p0 p1 p2 p3) 0).bind fun q=>match q with
    | (.inl _) =>
     some (r1.1,0)
    | (.inr rb) =>
     some rb
def iE (l7a:(List Int)):(Int×Int)→Option ((Int×Int)⊕((Int×Int)))
 | (s9c,s10c) =>
  if decide (s10c<((l7a).length:Int)) then
   (P.idx l7a s10c).bind fun x26 =>
   if decide (x26≤s9c) then
    some (.inl (IntKind.i64.wrap (s9c+1),IntKind.i64.wrap (s10c+1)))
   else
    some (.inr (s9c,s10c))
  else
   some (.inr (s9c,s10c))
def iD (p0:(List Int)):(Int×(List Int)×(List Int))→Option ((Int×(List Int)×(List Int))⊕(((List Int))))
 | (s20a,l6a,l7a) =>
  if decide (s20a<(p0.length:Int)) then
   (P.idx p0 s20a).bind fun x20 =>
   (aJ (iE l7a) (x20,0)).bind fun q=>match q with
   | (s9cx,s10cx) =>
    (eY 8 l6a [s9cx]).bind fun x28 =>
    (PW 8 l7a s10cx [s9cx]).bind fun x30 =>
    some (.inl (IntKind.i64.wrap (s20a+1),x28,x30))
  else
   some (.inr l6a)
def jB (p0:(List Int)) (p1:Int):Option ((List Int)×Int) :=
 (gp p0 p1).bind fun r1 =>
 if (!r1) then
  some ([],1)
 else
  (IU 8 0 (p0.length:Int) 0).bind fun x3 =>
  (aJ (iD p0) (0,x3,[])).bind fun l6ax =>
  some (l6ax,0)
def jP (p4:(List Int)) (r5:(List Int)×Int):(Int×(List Int))→Option ((Int×(List Int))⊕(((List Int))))
 | (s46a,l18a) =>
  if decide (s46a<(r5.1.length:Int)) then
   (P.idx r5.1 s46a).bind fun x13 =>
   (P.idx p4 x13).bind fun x14 =>
   (eY 8 l18a [x14]).bind fun x15 =>
   some (.inl (IntKind.i64.wrap (s46a+1),x15))
  else
   some (.inr l18a)
def dY (p0:az) (p1:(List Int)) (p2:(List (List Int))) (p3:(List Int)) (p4:(List Int)) (p5:Int):Option ((List Int)×Int) :=
 (jC p0 p1 p2 p3 (p4.length:Int) p5).bind fun r1 =>
 if (r1.2 != 0) then
  some ([],r1.2)
 else
  (fN p4).bind fun r3 =>
  if r3 then
   some ([],5)
  else
   (jB r1.1 (p4.length:Int)).bind fun r5 =>
   (aJ (jP p4 r5) (0,[])).bind fun l18ax =>
   some (l18ax,0)
def kB:Option (Bool) :=
 (kI (az.mk ([])) ([ByteArray.mk #[97],ByteArray.mk #[98],ByteArray.mk #[99]]) ([30,20,10]) ([7,8,9])).bind fun r2 =>
 (if (r2.2.2.2 != 0) then
  some true
 else
  if (r2.2.1 != 4) then
   some true
  else
   (fh r2.2.2.1 ([0,1,2])).bind fun r35 =>
   some (!r35)).bind fun s37j1 =>
 if s37j1 then
  some false
 else
  (fR 19 21).bind fun r5 =>
  (fR 21 22).bind fun r6 =>
  (iN r2.1 ([1]) 20 ([(aK.mk 1 r5)]) ([])).bind fun r8 =>
  (if r8 then
   (iN r2.1 ([1,2]) 20 ([]) ([(bt.mk 2 0)])).bind fun r28 =>
   if r28 then
    (iN r2.1 ([1]) 21 ([]) ([(bt.mk 1 1)])).bind fun r31 =>
    some r31
   else
    some false
  else
   some false).bind fun s7j2 =>
  (iN r2.1 ([1]) 20 ([(aK.mk 1 r5),(aK.mk 1 r6)]) ([(bt.mk 1 2)])).bind fun r11 =>
  (fM r2.1 4 60 24 ([1,1]) ([]) ([])).bind fun r13 =>
  (gI ([2,0])).bind fun r15 =>
  (gq r2.1 r15 0 5).bind fun r16 =>
  (dY r16.1 ([r16.2.1]) ([[2,0]]) ([5]) r2.2.2.1 2).bind fun r18 =>
  if s7j2 then
   if r11 then
    if (r13.2==5) then
     if (r16.2.2==0) then
      if (r18.2==0) then
       (fh r18.1 ([2,0])).bind fun r25 =>
       some r25
      else
       some false
     else
      some false
    else
     some false
   else
    some false
  else
   some false
def ig (p0:(List Int)):Option (Bool) :=
 if decide ((p0.length:Int)≤20) then
  some true
 else
  if decide ((p0.length:Int)>100) then
   some (decide ((p0.length:Int)≤102))
  else
   some false
def pV (p0:(List (List Int))):(Int)→Option ((Int)⊕((Unit)⊕(Bool)))
 | s3a =>
  (if decide (s3a<(p0.length:Int)) then
   some (decide (s3a<410))
  else
   some false).bind fun s11j3 =>
  if s11j3 then
   (P.idx p0 s3a).bind fun x10 =>
   (ig x10).bind fun r11 =>
   if (!r11) then
    some (.inr (.inr false))
   else
    some (.inl (IntKind.i64.wrap (s3a+1)))
  else
   some (.inr (.inl ()))
def pU (p0:(List (List Int))):Option (Bool) :=
 (aJ (pV p0) 0).bind fun q=>match q with
 | (.inl _) =>
  if decide ((p0.length:Int)≤8) then
   some true
  else
   if decide ((p0.length:Int)>400) then
    some (decide ((p0.length:Int)≤402))
   else
    some false
 | (.inr ra) =>
  some ra
def xi (p0:av):Option (Bool) :=
 if (p0.ca==(-1)) then
  some (p0.bK==(-1))
 else
  some false
def xl (p0:Int) (p1:Int) (p2:Int):Option (Bool) :=
 if decide (p0≥p1) then
  some (decide (p0≤p2))
 else
  some false
def BB (p0:av):Option (Bool) :=
 (xi p0).bind fun r1 =>
 if r1 then
  if decide ((p0.ct.size:Int)≤8000) then
   (xl p0.aN 0 1099511627776).bind fun r4 =>
   if r4 then
    (xl p0.aU 0 1099511627776).bind fun r6 =>
    some r6
   else
    some false
  else
   some false
 else
  some false
def mA (p0:az):(Int)→Option ((Int)⊕((Unit)⊕(Bool)))
 | s3a =>
  if decide (s3a<(p0.ak.length:Int)) then
   (P.idx p0.ak s3a).bind fun x20 =>
   (BB x20).bind fun r21 =>
   if r21 then
    some (.inl (IntKind.i64.wrap (s3a+1)))
   else
    (if (!(x20.ct.toList==(ByteArray.mk #[]).toList)) then
     some true
    else
     (xl x20.ca 0 (IntKind.i64.wrap (s3a-1))).bind fun r32 =>
     if (!r32) then
      some true
     else
      (xl x20.bK 0 (IntKind.i64.wrap (s3a-1))).bind fun r34 =>
      some (!r34)).bind fun s43j3 =>
    if s43j3 then
     some (.inr (.inr false))
    else
     (P.idx p0.ak x20.ca).bind fun x25 =>
     (P.idx p0.ak x20.bK).bind fun x26 =>
     if (x20.aN != (IntKind.i64.wrap (x25.aN+x26.aN))) then
      some (.inr (.inr false))
     else
      if (x20.aU != (IntKind.i64.wrap (x25.aU+x26.aU))) then
       some (.inr (.inr false))
      else
       if decide (x20.aN>1125899906842624) then
        some (.inr (.inr false))
       else
        if decide (x20.aU>1125899906842624) then
         some (.inr (.inr false))
        else
         some (.inl (IntKind.i64.wrap (s3a+1)))
  else
   some (.inr (.inl ()))
def xk (p0:az):Option (Bool) :=
 if decide ((p0.ak.length:Int)>2000) then
  some false
 else
  (aJ (mA p0) 0).bind fun q=>match q with
  | (.inl _) =>
   some true
  | (.inr ra) =>
   some ra
def iC (p0:(List Int)) (s3a:Int):(Int)→Option ((Int)⊕((Unit)⊕(Bool)))
 | s4c =>
  if decide (s4c<s3a) then
   (P.idx p0 s4c).bind fun x19 =>
   (P.idx p0 s3a).bind fun x20 =>
   if (x19==x20) then
    some (.inr (.inr true))
   else
    some (.inl (IntKind.i64.wrap (s4c+1)))
  else
   some (.inr (.inl ()))
def ka (p0:(List Int)):(Int)→Option ((Int)⊕((Unit)⊕(Bool)))
 | s3a =>
  if decide (s3a<(p0.length:Int)) then
   (aJ (iC p0 s3a) 0).bind fun q=>match q with
   | (.inl _) =>
    some (.inl (IntKind.i64.wrap (s3a+1)))
   | (.inr rc) =>
    some (.inr (.inr rc))
  else
   some (.inr (.inl ()))
def jz (p0:(List Int)):Option (Bool) :=
 (aJ (ka p0) 0).bind fun q=>match q with
 | (.inl _) =>
  some false
 | (.inr ra) =>
  some ra
def xj (p0:az) (p1:Int) (p2:ByteArray) (p3:Int) (p4:Int):Option (Bool) :=
 (xk p0).bind fun r1 =>
 (if (!r1) then
  some true
 else
  (xl p1 0 (IntKind.i64.wrap ((p0.ak.length:Int)-1))).bind fun r8 =>
  some (!r8)).bind fun s23j1 =>
 if s23j1 then
  some false
 else
  (P.idx p0.ak p1).bind fun x4 =>
  if (x4.ct.toList==p2.toList) then
   if (x4.aN==p3) then
    some (x4.aU==p4)
   else
    some false
  else
   some false
def mB (p0:(List Int)) (p1:Int):(Int)→Option ((Int)⊕((Unit)⊕(Bool)))
 | s5b =>
  if decide (s5b<(p0.length:Int)) then
   (P.idx p0 s5b).bind fun x9 =>
   if decide (x9<0) then
    some (.inr (.inr false))
   else
    if decide (x9≥(IntKind.i64.wrap (p1-s5b))) then
     some (.inr (.inr false))
    else
     some (.inl (IntKind.i64.wrap (s5b+1)))
  else
   some (.inr (.inl ()))
def sR (p0:(List Int)) (p1:Int):Option (Bool) :=
 (if decide (p1<0) then
  some true
 else
  if decide (p1>1099511627776) then
   some true
  else
   if decide ((p0.length:Int)>100) then
    some true
   else
    some (decide ((p0.length:Int)>p1))).bind fun s22j1 =>
 if s22j1 then
  some false
 else
  (aJ (mB p0 p1) 0).bind fun q=>match q with
  | (.inl _) =>
   some true
  | (.inr rb) =>
   some rb
def n9 (p0:(List (List Int))) (p1:Int) (p2:Int):(Int)→Option ((Int)⊕((Unit)⊕((List Int)×Int)))
 | s8b =>
  if decide (s8b<(p0.length:Int)) then
   (P.idx p0 s8b).bind fun x10 =>
   (sR x10 p1).bind fun r11 =>
   if (!r11) then
    some (.inr (.inr ([],1)))
   else
    if ((x10.length:Int) != p2) then
     some (.inr (.inr ([],1)))
    else
     some (.inl (IntKind.i64.wrap (s8b+1)))
  else
   some (.inr (.inl ()))
def lI (p0:(List (List Int))) (p1:Int) (s10c:Int):(Int×Int)→Option ((Int×Int)⊕((Int)))
 | (s11e,s12e) =>
  if decide (s12e<(p0.length:Int)) then
   (P.idx p0 s12e).bind fun x37 =>
   (P.idx x37 s10c).bind fun x38 =>
   (vD .i64 (IntKind.i64.wrap (s11e+x38)) (IntKind.i64.wrap (p1-s10c))).bind fun x39 =>
   some (.inl (x39,IntKind.i64.wrap (s12e+1)))
  else
   some (.inr s11e)
def lH (p0:(List (List Int))) (p1:Int) (p2:Int):(Int×(List Int))→Option ((Int×(List Int))⊕(((List Int))))
 | (s10c,l9c) =>
  if decide (s10c<p2) then
   (aJ (lI p0 p1 s10c) (0,0)).bind fun s11ex =>
   (eY 8 l9c [s11ex]).bind fun x41 =>
   some (.inl (IntKind.i64.wrap (s10c+1),x41))
  else
   some (.inr l9c)
def BE (p0:(List (List Int))) (p1:Int) (p2:Int):Option ((List Int)×Int) :=
 (if decide (p2<0) then
  some true
 else
  if decide (p2>100) then
   some true
  else
   if decide (p1<p2) then
    some true
   else
    if decide (p1>1099511627776) then
     some true
    else
     some (decide ((p0.length:Int)>400))).bind fun s32j1 =>
 if s32j1 then
  some ([],1)
 else
  (aJ (n9 p0 p1 p2) 0).bind fun q=>match q with
  | (.inl _) =>
   (aJ (lH p0 p1 p2) (0,[])).bind fun l9cx =>
   some (l9cx,0)
  | (.inr rb) =>
   some rb
def nk (p0:Int):Option ByteArray:=Fb p0
def Gg (p0:Int):Option (ByteArray) :=
 if decide (p0<0) then
  (nk p0).bind fun r2 =>
  (E8 (ByteArray.mk #[45]) r2).bind fun x3 =>
  (E8 x3 (ByteArray.mk #[59])).bind fun x5 =>
  some x5
 else
  (nk (IntKind.i64.wrap (0-p0))).bind fun r7 =>
  (E8 r7 (ByteArray.mk #[59])).bind fun x8 =>
  some x8
def lE (p0:(List Int)):(ByteArray×Int)→Option ((ByteArray×Int)⊕((ByteArray)))
 | (s3a,s4a) =>
  if decide (s4a<(p0.length:Int)) then
   (P.idx p0 s4a).bind fun x11 =>
   (Gg x11).bind fun r12 =>
   (E8 s3a r12).bind fun x13 =>
   some (.inl (x13,IntKind.i64.wrap (s4a+1)))
  else
   some (.inr s3a)
def Ji (p0:(List Int)):Option (ByteArray) :=
 (nk (IntKind.i64.wrap (0-(p0.length:Int)))).bind fun r1 =>
 (E8 r1 (ByteArray.mk #[91])).bind fun x2 =>
 (aJ (lE p0) (x2,0)).bind fun s3ax =>
 (E8 s3ax (ByteArray.mk #[93])).bind fun x15 =>
 some x15
def BF (p0:(List Int)):Option (ByteArray) :=
 (Ji p0).bind fun r1 =>
 some r1
def lG (p1:(List Int)) (s16b:Int):(Int)→Option ((Int)⊕((Unit)⊕((List Int)×Int)))
 | s17d =>
  if decide (s17d<s16b) then
   (P.idx p1 s17d).bind fun x23 =>
   (P.idx p1 s16b).bind fun x24 =>
   if (x23==x24) then
    some (.inr (.inr ([],5)))
   else
    some (.inl (IntKind.i64.wrap (s17d+1)))
  else
   some (.inr (.inl ()))
def n0 (p1:(List Int)):(Int)→Option ((Int)⊕((Unit)⊕((List Int)×Int)))
 | s16b =>
  if decide (s16b<(p1.length:Int)) then
   (aJ (lG p1 s16b) 0).bind fun q=>match q with
   | (.inl _) =>
    some (.inl (IntKind.i64.wrap (s16b+1)))
   | (.inr rd) =>
    some (.inr (.inr rd))
  else
   some (.inr (.inl ()))
def n5 (p0:az) (p1:(List Int)) (p2:(List (List Int))) (p3:(List Int)):(Int)→Option ((Int)⊕((Unit)⊕((List Int)×Int)))
 | s18e =>
  if decide (s18e<(p1.length:Int)) then
   (P.idx p1 s18e).bind fun x35 =>
   (P.idx p2 s18e).bind fun x36 =>
   (BF x36).bind fun r37 =>
   (P.idx p3 s18e).bind fun x38 =>
   (xj p0 x35 r37 0 x38).bind fun r39 =>
   if (!r39) then
    some (.inr (.inr ([],22)))
   else
    some (.inl (IntKind.i64.wrap (s18e+1)))
  else
   some (.inr (.inl ()))
def BD (p0:az) (p1:(List Int)) (p2:(List (List Int))) (p3:(List Int)) (p4:Int) (p5:Int):Option ((List Int)×Int) :=
 (BE p2 p4 p5).bind fun r1 =>
 if (r1.2 != 0) then
  some ([],r1.2)
 else
  (if ((p1.length:Int) != (p2.length:Int)) then
   some true
  else
   some ((p3.length:Int) != (p2.length:Int))).bind fun s40j1 =>
  if s40j1 then
   some ([],2)
  else
   (aJ (n0 p1) 0).bind fun q=>match q with
   | (.inl _) =>
    (aJ (n5 p0 p1 p2 p3) 0).bind fun q=>match q with
    | (.inl _) =>
     some (r1.1,0)
    | (.inr re) =>
     some re
   | (.inr rb) =>
    some rb
def nn (p0:(List Int)) (s5a:Int):(Int×Int)→Option ((Int×Int)⊕((Int)))
 | (s6c,s7c) =>
  if decide (s7c<(p0.length:Int)) then
   (P.idx p0 s7c).bind fun x15 =>
   if decide (x15≤s5a) then
    some (.inl (IntKind.i64.wrap (s6c+1),IntKind.i64.wrap (s7c+1)))
   else
    some (.inl (s6c,IntKind.i64.wrap (s7c+1)))
  else
   some (.inr s6c)
def uB (p0:(List Int)) (p1:Int):(Int)→Option ((Int)⊕((Int)))
 | s5a =>
  (aJ (nn p0 s5a) (0,0)).bind fun s6cx =>
  if (s5a==(IntKind.i64.wrap (p1+s6cx))) then
   some (.inr s5a)
  else
   some (.inl (IntKind.i64.wrap (p1+s6cx)))
def Gh (p0:(List Int)) (p1:Int):Option (Int) :=
 (aJ (uB p0 p1) p1).bind fun ra =>
 some ra
def lF (p0:(List Int)):(Int×(List Int))→Option ((Int×(List Int))⊕(((List Int))))
 | (s7a,l6a) =>
  if decide (s7a<(p0.length:Int)) then
   (P.idx p0 s7a).bind fun x10 =>
   (Gh l6a x10).bind fun r11 =>
   (eY 8 l6a [r11]).bind fun x12 =>
   some (.inl (IntKind.i64.wrap (s7a+1),x12))
  else
   some (.inr l6a)
def BC (p0:(List Int)) (p1:Int):Option ((List Int)×Int) :=
 (sR p0 p1).bind fun r1 =>
 if (!r1) then
  some ([],1)
 else
  (aJ (lF p0) (0,[])).bind fun l6ax =>
  some (l6ax,0)
def vY (p4:(List Int)) (r5:(List Int)×Int):(Int×(List Int))→Option ((Int×(List Int))⊕(((List Int))))
 | (s19a,l18a) =>
  if decide (s19a<(r5.1.length:Int)) then
   (P.idx r5.1 s19a).bind fun x13 =>
   (P.idx p4 x13).bind fun x14 =>
   (eY 8 l18a [x14]).bind fun x15 =>
   some (.inl (IntKind.i64.wrap (s19a+1),x15))
  else
   some (.inr l18a)
def ED (p0:az) (p1:(List Int)) (p2:(List (List Int))) (p3:(List Int)) (p4:(List Int)) (p5:Int):Option ((List Int)×Int) :=
 (BD p0 p1 p2 p3 (p4.length:Int) p5).bind fun r1 =>
 if (r1.2 != 0) then
  some ([],r1.2)
 else
  (jz p4).bind fun r3 =>
  if r3 then
   some ([],5)
  else
   (BC r1.1 (p4.length:Int)).bind fun r5 =>
   (aJ (vY p4 r5) (0,[])).bind fun l18ax =>
   some (l18ax,0)
def gA (p0:(List Int)) (p1:(List Int)):(Int)→Option ((Int)⊕((Unit)⊕(Bool)))
 | s5a =>
  if decide (s5a<(p0.length:Int)) then
   (P.idx p0 s5a).bind fun x8 =>
   (P.idx p1 s5a).bind fun x9 =>
   if (x8 != x9) then
    some (.inr (.inr false))
   else
    some (.inl (IntKind.i64.wrap (s5a+1)))
  else
   some (.inr (.inl ()))
def fi (p0:(List Int)) (p1:(List Int)):Option (Bool) :=
 if ((p0.length:Int) != (p1.length:Int)) then
  some false
 else
  (aJ (gA p0 p1) 0).bind fun q=>match q with
  | (.inl _) =>
   some true
  | (.inr ra) =>
   some ra
def ep (p0:(List (List Int))) (r1:Bool):(Int×(List av)×(List Int)×(List Int))→Option ((Int×(List av)×(List Int)×(List Int))⊕(((List av)×(List Int)×(List Int))⊕(Bool)))
 | (s13b,r10_0b,l11b,l12b) =>
  if decide (s13b<(p0.length:Int)) then
   (P.idx p0 s13b).bind fun x16 =>
   (gI x16).bind fun r17 =>
   (gq (az.mk r10_0b) r17 0 s13b).bind fun r18 =>
   if (r18.2.2 != 0) then
    some (.inr (.inr r1))
   else
    (eY 8 l11b [r18.2.1]).bind fun x20 =>
    (eY 8 l12b [s13b]).bind fun x22 =>
    some (.inl (IntKind.i64.wrap (s13b+1),r18.1.ak,x20,x22))
  else
   some (.inr (.inl (r10_0b,l11b,l12b)))
def dA (p1:(List Int)) (r24:(List Int)×Int) (s20e:Int):(Bool×Int)→Option ((Bool×Int)⊕((Bool)))
 | (s21g,s22g) =>
  if decide (s22g<(p1.length:Int)) then
   if s21g then
    some (.inl (true,IntKind.i64.wrap (s22g+1)))
   else
    (P.idx p1 s22g).bind fun x50 =>
    (P.idx r24.1 s20e).bind fun x51 =>
    some (.inl ((x50==x51),IntKind.i64.wrap (s22g+1)))
  else
   some (.inr s21g)
def er (p1:(List Int)) (r24:(List Int)×Int):(Int)→Option ((Int)⊕((Unit)⊕(Bool)))
 | s20e =>
  if decide (s20e<(r24.1.length:Int)) then
   (aJ (dA p1 r24 s20e) (false,0)).bind fun s21gx =>
   if (!s21gx) then
    some (.inr (.inr false))
   else
    some (.inl (IntKind.i64.wrap (s20e+1)))
  else
   some (.inr (.inl ()))
def ef (p0:(List (List Int))) (p1:(List Int)) (p2:Int) (p3:(List Int)):Option (Bool) :=
 (kB).bind fun r1 =>
 (pU p0).bind fun r2 =>
 (if (!r2) then
  some true
 else
  if ((p0.length:Int)==0) then
   some true
  else
   if decide ((p0.length:Int)>8) then
    some true
   else
    if decide ((p1.length:Int)>20) then
     some true
    else
     (ig p3).bind fun r86 =>
     some (!r86)).bind fun s52j1 =>
 if s52j1 then
  some r1
 else
  (aJ (ep p0 r1) (0,[],[],[])).bind fun q=>match q with
  | (.inl (r10_0bx,l11bx,l12bx)) =>
   (dY (az.mk r10_0bx) l11bx p0 l12bx p1 p2).bind fun r24 =>
   if (r24.2 != 0) then
    (if r1 then
     some ((r24.1.length:Int)==0)
    else
     some false).bind fun s8j3 =>
    some s8j3
   else
    (if ((r24.1.length:Int) != p2) then
     some true
    else
     (jz r24.1).bind fun r81 =>
     some r81).bind fun s115j4 =>
    if s115j4 then
     some false
    else
     (aJ (er p1 r24) 0).bind fun q=>match q with
     | (.inl _) =>
      (gp p3 (p1.length:Int)).bind fun r53 =>
      (if (!r53) then
       some true
      else
       if ((p3.length:Int) != p2) then
        some true
       else
        (P.idx p0 (IntKind.i64.wrap ((p0.length:Int)-1))).bind fun x78 =>
        (fi p3 x78).bind fun r79 =>
        some r79).bind fun s160j8 =>
      if s160j8 then
       some r1
      else
       (gI p3).bind fun r56 =>
       (gq (az.mk r10_0bx) r56 0 (IntKind.i64.wrap ((p0.length:Int)-1))).bind fun r57 =>
       (yY p0 0 (IntKind.i64.wrap ((p0.length:Int)-1))).bind fun x58 =>
       (eY 24 [] x58).bind fun _ =>
       (eY 24 x58 [p3]).bind fun x62 =>
       (yY l11bx 0 (IntKind.i64.wrap ((p0.length:Int)-1))).bind fun x64 =>
       (eY 8 [] x64).bind fun _ =>
       (eY 8 x64 [r57.2.1]).bind fun x68 =>
       (dY r57.1 x68 x62 l12bx p1 p2).bind fun r70 =>
       if r1 then
        if (r57.2.2==0) then
         if (r70.2==0) then
          if ((r70.1.length:Int)==p2) then
           (fi r24.1 r70.1).bind fun r75 =>
           some (!r75)
          else
           some false
         else
          some false
        else
         some false
       else
        some false
     | (.inr re) =>
      some re
  | (.inr rb) =>
   some rb
end Go.Proofs.YtpkahnkoecbndaaGreatDoor.P
namespace Go.Proofs.YtpkahnkoecbndaaGreatDoor.Am
open Go.RowKit Go.Proofs.YtpkahnkoecbndaaGreatDoor.P
set_option maxRecDepth 100000
set_option maxHeartbeats 4000000
set_option linter.unusedSimpArgs false
set_option linter.unusedVariables false
theorem Wz:type_of% (ai @Tw<|ai @JK<|ai @Tx<|ai @Tz<|ai @TA<|ai @QU<|ai @QV<|ai @QW<|ai @QX<|ai @QY<|ai @xq<|ai @QZ<|ai @Q0<|ai @Gq<|ai @Q1<|ai @Q2<|ai @Q3<|ai @Q4<|ai @Q5<|ai @Q6<|ai @Q7<|ai @Q8<|ai @Q9<|ai @Ra<|ai @Rb<|ai @Rc<|ai @Re<|ai @Rf<|ai @Rg<|ai @Rh<|ai @Ri<|ai @Rj<|ai @Rk<|ai @Rl<|ai @Rm<|ai @Rn<|ai @Ro<|ai @M0<|ai @M3<|ai @M4<|ai @M5<|ai @M6<|ai @M7<|ai @M8<|ai @M9<|ai @Na<|ai @Nb<|ai @Nc<|ai @Nd<|ai @Nf<|@Ng):=⟨@Tw,@JK,@Tx,@Tz,@TA,@QU,@QV,@QW,@QX,@QY,@xq,@QZ,@Q0,@Gq,@Q1,@Q2,@Q3,@Q4,@Q5,@Q6,@Q7,@Q8,@Q9,@Ra,@Rb,@Rc,@Re,@Rf,@Rg,@Rh,@Ri,@Rj,@Rk,@Rl,@Rm,@Rn,@Ro,@M0,@M3,@M4,@M5,@M6,@M7,@M8,@M9,@Na,@Nb,@Nc,@Nd,@Nf,@Ng⟩
def gN:kj ay:=Ao (kp (eI .i64) (jv (eI .i64))) (fun x=>(x.ah,x.aa)) (by rintro⟨⟩ ⟨⟩ h;simpa using h)
theorem xP (x:ay):gN.cells x=[.int .i64 x.ah,.sl false false x.aa.length (ab (eI .i64) x.aa)]:=Eq.trans rfl rfl
theorem An:gN.size=2:=Eq.trans rfl rfl
theorem HE (x:ay):ay.mk x.ah x.aa=x:=Eq.trans rfl rfl
def mR:kj ba:=Ao (kp gN gN) (fun x=>(x.cH,x.cB)) (by rintro⟨⟩ ⟨⟩ h;simpa using h)
theorem u9 (x:ba):mR.cells x=[.int .i64 x.cH.ah,.sl false false x.cH.aa.length (ab (eI .i64) x.cH.aa),.int .i64 x.cB.ah,.sl false false x.cB.aa.length (ab (eI .i64) x.cB.aa)]:=Eq.trans rfl rfl
theorem xQ:mR.size=4:=Eq.trans rfl rfl
theorem DV (x:ba):ba.mk x.cH x.cB=x:=Eq.trans rfl rfl
def mS:kj gx:=Ao (kp mR mR) (fun x=>(x.bz,x.aY)) (by rintro⟨⟩ ⟨⟩ h;simpa using h)
theorem vb (x:gx):mS.cells x=[.int .i64 x.bz.cH.ah,.sl false false x.bz.cH.aa.length (ab (eI .i64) x.bz.cH.aa),.int .i64 x.bz.cB.ah,.sl false false x.bz.cB.aa.length (ab (eI .i64) x.bz.cB.aa),.int .i64 x.aY.cH.ah,.sl false false x.aY.cH.aa.length (ab (eI .i64) x.aY.cH.aa),.int .i64 x.aY.cB.ah,.sl false false x.aY.cB.aa.length (ab (eI .i64) x.aY.cB.aa)]:=Eq.trans rfl rfl
theorem xS:mS.size=8:=Eq.trans rfl rfl
theorem DX (x:gx):gx.mk x.bz x.aY=x:=Eq.trans rfl rfl
def a7:kj aK:=Ao (kp (eI .i64) mS) (fun x=>(x.eu,x.cc)) (by rintro⟨⟩ ⟨⟩ h;simpa using h)
theorem qn (x:aK):a7.cells x=[.int .i64 x.eu,.int .i64 x.cc.bz.cH.ah,.sl false false x.cc.bz.cH.aa.length (ab (eI .i64) x.cc.bz.cH.aa),.int .i64 x.cc.bz.cB.ah,.sl false false x.cc.bz.cB.aa.length (ab (eI .i64) x.cc.bz.cB.aa),.int .i64 x.cc.aY.cH.ah,.sl false false x.cc.aY.cH.aa.length (ab (eI .i64) x.cc.aY.cH.aa),.int .i64 x.cc.aY.cB.ah,.sl false false x.cc.aY.cB.aa.length (ab (eI .i64) x.cc.aY.cB.aa)]:=Eq.trans rfl rfl
theorem ru:a7.size=9:=Eq.trans rfl rfl
theorem vk (x:aK):aK.mk x.eu x.cc=x:=Eq.trans rfl rfl
def Px:kj LD:=Ao (kp (jv nA) (kp (jv (eI .i64)) (jv (eI .i64)))) (fun x=>(x.zc,x.vp,x.vo)) (by rintro⟨⟩ ⟨⟩ h;simpa using h)
theorem va (x:LD):Px.cells x=[.sl false false x.zc.length (ab nA x.zc),.sl false false x.vp.length (ab (eI .i64) x.vp),.sl false false x.vo.length (ab (eI .i64) x.vo)]:=Eq.trans rfl rfl
theorem xR:Px.size=3:=Eq.trans rfl rfl
theorem DW (x:LD):LD.mk x.zc x.vp x.vo=x:=Eq.trans rfl rfl
def bX:kj bQ:=Ao (kp (eI .i64) (kp (jv (eI .i64)) (kp nA (kp (eI .i64) (eI .i64))))) (fun x=>(x.eu,x.kz,x.ct,x.aN,x.aU)) (by rintro⟨⟩ ⟨⟩ h;simpa using h)
theorem qo (x:bQ):bX.cells x=[.int .i64 x.eu,.sl false false x.kz.length (ab (eI .i64) x.kz),.str x.ct,.int .i64 x.aN,.int .i64 x.aU]:=Eq.trans rfl rfl
theorem rv:bX.size=5:=Eq.trans rfl rfl
theorem vl (x:bQ):bQ.mk x.eu x.kz x.ct x.aN x.aU=x:=Eq.trans rfl rfl
def bR:kj bt:=Ao (kp (eI .i64) (eI .i64)) (fun x=>(x.eu,x.jU)) (by rintro⟨⟩ ⟨⟩ h;simpa using h)
theorem qm (x:bt):bR.cells x=[.int .i64 x.eu,.int .i64 x.jU]:=Eq.trans rfl rfl
theorem rq:bR.size=2:=Eq.trans rfl rfl
theorem vg (x:bt):bt.mk x.eu x.jU=x:=Eq.trans rfl rfl
def aq:kj av:=Ao (kp nA (kp (eI .i64) (kp (eI .i64) (kp (eI .i64) (eI .i64))))) (fun x=>(x.ct,x.aN,x.aU,x.ca,x.bK)) (by rintro⟨⟩ ⟨⟩ h;simpa using h)
theorem tx (x:av):aq.cells x=[.str x.ct,.int .i64 x.aN,.int .i64 x.aU,.int .i64 x.ca,.int .i64 x.bK]:=Eq.trans rfl rfl
theorem vc:aq.size=5:=Eq.trans rfl rfl
theorem AA (x:av):av.mk x.ct x.aN x.aU x.ca x.bK=x:=Eq.trans rfl rfl
def fA:kj az:=Ao (jv aq) (fun x=>(x.ak)) (by rintro⟨⟩ ⟨⟩ h;simpa using h)
theorem tz (x:az):fA.cells x=[.sl false false x.ak.length (ab aq x.ak)]:=Eq.trans rfl rfl
theorem vd:fA.size=1:=Eq.trans rfl rfl
theorem AB (x:az):az.mk x.ak=x:=Eq.trans rfl rfl
def y9:kj jf:=Ao (kp fA (kp (eI .i64) (kp (eI .i64) (eI .i64)))) (fun x=>(x.Sh,x.wT,x.sw,x.su)) (by rintro⟨⟩ ⟨⟩ h;simpa using h)
theorem tA (x:jf):y9.cells x=[.sl false false x.Sh.ak.length (ab aq x.Sh.ak),.int .i64 x.wT,.int .i64 x.sw,.int .i64 x.su]:=Eq.trans rfl rfl
theorem ve:y9.size=4:=Eq.trans rfl rfl
theorem AD (x:jf):jf.mk x.Sh x.wT x.sw x.su=x:=Eq.trans rfl rfl
def DP:kj uN:=Ao fA (fun x=>(x.zd)) (by rintro⟨⟩ ⟨⟩ h;simpa using h)
theorem qp (x:uN):DP.cells x=[.sl false false x.zd.ak.length (ab aq x.zd.ak)]:=Eq.trans rfl rfl
theorem rz:DP.size=1:=Eq.trans rfl rfl
theorem vn (x:uN):uN.mk x.zd=x:=Eq.trans rfl rfl
theorem Tb {l:List _} : (ab (eI .i64) l).length=l.length*1:=cq _ l
theorem K8 {l:List _} : (ab (eI .i64) l).take (l.length*1)=ab (eI .i64) l:=by
 have:=eK (eI .i64) l l.length
 rw[List.take_length]at this
 exact this
theorem Rp {l:List _} {i:Nat} {x:_} : (ab (eI .i64) (l.set i x)).take (l.length*1)=ab (eI .i64) (l.set i x):=by
 have:=@K8 (l.set i x)
 rwa [List.length_set]at this
theorem Tc {l:List _} : (ab (eI .u8) l).length=l.length*1:=cq _ l
theorem K9 {l:List _} : (ab (eI .u8) l).take (l.length*1)=ab (eI .u8) l:=by
 have:=eK (eI .u8) l l.length
 rw[List.take_length]at this
 exact this
theorem Rq {l:List _} {i:Nat} {x:_} : (ab (eI .u8) (l.set i x)).take (l.length*1)=ab (eI .u8) (l.set i x):=by
 have:=@K9 (l.set i x)
 rwa [List.length_set]at this
theorem Td {l:List _} : (ab (jv (eI .i64)) l).length=l.length*1:=cq _ l
theorem La {l:List _} : (ab (jv (eI .i64)) l).take (l.length*1)=ab (jv (eI .i64)) l:=by
 have:=eK (jv (eI .i64)) l l.length
 rw[List.take_length]at this
 exact this
theorem Rr {l:List _} {i:Nat} {x:_} : (ab (jv (eI .i64)) (l.set i x)).take (l.length*1)=ab (jv (eI .i64)) (l.set i x):=by
 have:=@La (l.set i x)
 rwa [List.length_set]at this
theorem Te {l:List _} : (ab xN l).length=l.length*1:=cq _ l
theorem Lb {l:List _} : (ab xN l).take (l.length*1)=ab xN l:=by
 have:=eK xN l l.length
 rw[List.take_length]at this
 exact this
theorem Rs {l:List _} {i:Nat} {x:_} : (ab xN (l.set i x)).take (l.length*1)=ab xN (l.set i x):=by
 have:=@Lb (l.set i x)
 rwa [List.length_set]at this
theorem Tf {l:List _} : (ab nA l).length=l.length*1:=cq _ l
theorem Lc {l:List _} : (ab nA l).take (l.length*1)=ab nA l:=by
 have:=eK nA l l.length
 rw[List.take_length]at this
 exact this
theorem Rt {l:List _} {i:Nat} {x:_} : (ab nA (l.set i x)).take (l.length*1)=ab nA (l.set i x):=by
 have:=@Lc (l.set i x)
 rwa [List.length_set]at this
theorem Tg {l:List _} : (ab bR l).length=l.length*2:=cq _ l
theorem Ld {l:List _} : (ab bR l).take (l.length*2)=ab bR l:=by
 have:=eK bR l l.length
 rw[List.take_length]at this
 exact this
theorem Ru {l:List _} {i:Nat} {x:_} : (ab bR (l.set i x)).take (l.length*2)=ab bR (l.set i x):=by
 have:=@Ld (l.set i x)
 rwa [List.length_set]at this
theorem Th {l:List _} : (ab a7 l).length=l.length*9:=cq _ l
theorem Le {l:List _} : (ab a7 l).take (l.length*9)=ab a7 l:=by
 have:=eK a7 l l.length
 rw[List.take_length]at this
 exact this
theorem Rv {l:List _} {i:Nat} {x:_} : (ab a7 (l.set i x)).take (l.length*9)=ab a7 (l.set i x):=by
 have:=@Le (l.set i x)
 rwa [List.length_set]at this
theorem Ti {l:List _} : (ab bX l).length=l.length*5:=cq _ l
theorem Lf {l:List _} : (ab bX l).take (l.length*5)=ab bX l:=by
 have:=eK bX l l.length
 rw[List.take_length]at this
 exact this
theorem Rw {l:List _} {i:Nat} {x:_} : (ab bX (l.set i x)).take (l.length*5)=ab bX (l.set i x):=by
 have:=@Lf (l.set i x)
 rwa [List.length_set]at this
theorem Tj {l:List _} : (ab mS l).length=l.length*8:=cq _ l
theorem Lg {l:List _} : (ab mS l).take (l.length*8)=ab mS l:=by
 have:=eK mS l l.length
 rw[List.take_length]at this
 exact this
theorem Rx {l:List _} {i:Nat} {x:_} : (ab mS (l.set i x)).take (l.length*8)=ab mS (l.set i x):=by
 have:=@Lg (l.set i x)
 rwa [List.length_set]at this
theorem Tk {l:List _} : (ab aq l).length=l.length*5:=cq _ l
theorem Lh {l:List _} : (ab aq l).take (l.length*5)=ab aq l:=by
 have:=eK aq l l.length
 rw[List.take_length]at this
 exact this
theorem Ry {l:List _} {i:Nat} {x:_} : (ab aq (l.set i x)).take (l.length*5)=ab aq (l.set i x):=by
 have:=@Lh (l.set i x)
 rwa [List.length_set]at this
theorem VU:type_of% (ai @u7<|ai @xO<|ai @Al<|ai @wR<|ai @Mg<|ai @Ak<|ai @DO<|ai @HA<|ai @vf<|ai @xP<|ai @An<|ai @u9<|ai @xQ<|ai @vb<|ai @xS<|ai @qn<|ai @ru<|ai @va<|ai @xR<|ai @qo<|ai @rv<|ai @qm<|ai @rq<|ai @tx<|ai @vc<|ai @tz<|ai @vd<|ai @tA<|ai @ve<|ai @qp<|@rz):=⟨@u7,@xO,@Al,@wR,@Mg,@Ak,@DO,@HA,@vf,@xP,@An,@u9,@xQ,@vb,@xS,@qn,@ru,@va,@xR,@qo,@rv,@qm,@rq,@tx,@vc,@tz,@vd,@tA,@ve,@qp,@rz⟩
theorem Wy:type_of% (ai @aF<|ai @HE<|ai @DV<|ai @DX<|ai @vk<|ai @DW<|ai @vl<|ai @vg<|ai @AA<|ai @AB<|ai @AD<|ai @vn<|ai @Tb<|ai @K8<|ai @Rp<|ai @Tc<|ai @K9<|ai @Rq<|ai @Td<|ai @La<|ai @Rr<|ai @Te<|ai @Lb<|ai @Rs<|ai @Tf<|ai @Lc<|ai @Rt<|ai @Tg<|ai @Ld<|ai @Ru<|ai @Th<|ai @Le<|ai @Rv<|ai @Ti<|ai @Lf<|ai @Rw<|ai @Tj<|ai @Lg<|ai @Rx<|ai @Tk<|ai @Lh<|@Ry):=⟨@aF,@HE,@DV,@DX,@vk,@DW,@vl,@vg,@AA,@AB,@AD,@vn,@Tb,@K8,@Rp,@Tc,@K9,@Rq,@Td,@La,@Rr,@Te,@Lb,@Rs,@Tf,@Lc,@Rt,@Tg,@Ld,@Ru,@Th,@Le,@Rv,@Ti,@Lf,@Rw,@Tj,@Lg,@Rx,@Tk,@Lh,@Ry⟩
theorem w:type_of% (ai @v<|ai @Wz<|ai @VU<|ai @Wy<|@vi):=⟨@v,@Wz,@VU,@Wy,@vi⟩
theorem bY:type_of% (ai @VU<|ai @List.cons_append.{0}<|ai @List.nil_append.{0}<|ai @List.length_nil.{0}<|ai @List.drop_succ_cons.{0}<|@List.drop_zero.{0}):=⟨@VU,@List.cons_append.{0},@List.nil_append.{0},@List.length_nil.{0},@List.drop_succ_cons.{0},@List.drop_zero.{0}⟩
noncomputable def gT:=ez (dX (aI .i64) (dJ (aI .i64))) (fun x:Int×Int=>dE x.1 x.2) (fun r:Bool =>.clean (.bool r))
theorem fF (p0:Int) (p1:Int):gT none [.int .i64 p0,.int .i64 p1]=(dE p0 p1).map fun r:Bool=>(.clean (.bool r),none):=aE _ _ _ (p0,p1)
theorem A8 (p0:Int) (p1:Int) (r:Bool) (hh:dE p0 p1=some r):aQ .clean tab aT FU Tryz.f91 none [.int .i64 p0,.int .i64 p1]=some (.clean (.bool r),none):=by
 refine aw rfl Tryz.ntmps91 Tryz.results91 ?_
 unfold dE at hh
 try simp only[w,seval,-Int.reduceToNat]
 refine sp bm hh (fun _ hh =>?_) (fun _ hh =>?_)
 ·cases hh
  try simp only[w,seval,-Int.reduceToNat]
 ·cases hh
  try simp only[w,seval,-Int.reduceToNat]
theorem lU:bI Tryz.prog 91 gT:=bI.of (mode := .clean) tok bM.none mixed Tryz.func91 (by kernel_rfl) ⟨by kernel_rfl,by kernel_rfl⟩ (fun _=>Nat.le_of_ble_eq_true (by kernel_rfl)) (fun x r h=>A8 x.1 x.2 r h)
noncomputable def l5:=ez (dJ (dU aq)) (fun x:av=>im x) (fun r:Bool =>.clean (.bool r))
theorem mz (p0_0:ByteArray) (p0_1:Int) (p0_2:Int) (p0_3:Int) (p0_4:Int):l5 none [.agg [.str p0_0,.int .i64 p0_1,.int .i64 p0_2,.int .i64 p0_3,.int .i64 p0_4]]=(im (av.mk p0_0 p0_1 p0_2 p0_3 p0_4)).map fun r:Bool=>(.clean (.bool r),none):=aE _ _ _ ((av.mk p0_0 p0_1 p0_2 p0_3 p0_4))
noncomputable def mm:Env:=(Am.ext aT 91 false gT)
theorem Cr:bM Tryz.prog mm:=(bM.none.add lU false)
theorem cY:type_of% (ai @w<|ai @fF<|@mm.eq_1):=⟨@w,@fF,@mm.eq_1⟩
theorem FW (p0:av) (r:Bool) (hh:im p0=some r):aQ .clean tab mm FU Tryz.f51 none [.agg [.str p0.ct,.int .i64 p0.aN,.int .i64 p0.aU,.int .i64 p0.ca,.int .i64 p0.bK]]=some (.clean (.bool r),none):=by
 refine aw rfl Tryz.ntmps51 Tryz.results51 ?_
 unfold im at hh
 try simp only[cY,seval,-Int.reduceToNat]
 obtain⟨o1,ho1,hh⟩:=ae hh
 refine bG 0 (fun s t H e=>match s with|s3j1=>∃v1j1:Nat,t 1=.ptr 1 v1j1 0∧t 3=.bool s3j1∧H 1=some ⟨v1j1,87,[.str p0.ct,.int .i64 p0.aN,.int .i64 p0.aU,.int .i64 p0.ca,.int .i64 p0.bK],false,false,false⟩) (fun s=>s=o1) ?_ ?_
 ·rintro s3j1 t H e ⟨v1j1,Zj1⟩ rfl
  try dsimp only at hh
  try simp only[cY,seval,-Int.reduceToNat,Zj1]
  refine sp bm hh (fun _ hh =>?_) (fun _ hh =>?_)
  ·try simp only[cY,seval,-Int.reduceToNat,Zj1]
   refine sp bm hh (fun _ hh =>?_) (fun _ hh =>?_)
   ·obtain⟨r4,hr4,hh⟩:=ae hh
    try simp only[cY,seval,-Int.reduceToNat,Zj1,hr4]
    refine sp bm hh (fun _ hh =>?_) (fun _ hh =>?_)
    ·obtain⟨r6,hr6,hh⟩:=ae hh
     cases hh
     try simp only[cY,seval,-Int.reduceToNat,Zj1,hr4,hr6]
    ·cases hh
     try simp only[cY,seval,-Int.reduceToNat,Zj1,hr4]
   ·cases hh
    try simp only[cY,seval,-Int.reduceToNat,Zj1]
  ·cases hh
   try simp only[cY,seval,-Int.reduceToNat,Zj1]
 ·clear hh
  have hh:=ho1
  try simp only[cY,seval,-Int.reduceToNat]
  refine sp bm hh (fun _ hh =>?_) (fun _ hh =>?_)
  ·cases hh
   try simp only[cY,seval,-Int.reduceToNat]
   rw[al]
   refine⟨_,rfl,?_⟩
   refine⟨0,?_,?_,?_⟩
   all_goals first|rfl|(simp only[cY,seval,-Int.reduceToNat]<;>rfl)
  ·cases hh
   try simp only[cY,seval,-Int.reduceToNat]
   rw[al]
   refine⟨_,rfl,?_⟩
   refine⟨0,?_,?_,?_⟩
   all_goals first|rfl|(simp only[cY,seval,-Int.reduceToNat]<;>rfl)
theorem tH:bI Tryz.prog 51 l5:=bI.of (mode := .clean) tok Cr mixed Tryz.func51 (by kernel_rfl) ⟨by kernel_rfl,by kernel_rfl⟩ (fun _=>Nat.le_of_ble_eq_true (by kernel_rfl)) (fun x r h=>FW x r h)
noncomputable def pe:=ez (dX (gg aq) (dX (aI .i64) (dJ (aI .i64)))) (fun x:(List av)×Int×Int=>jl x.1 x.2.1 x.2.2) (fun r:av×Int =>.clean (.tup [.agg [.str r.1.ct,.int .i64 r.1.aN,.int .i64 r.1.aU,.int .i64 r.1.ca,.int .i64 r.1.bK],.int .i64 r.2]))
theorem vR (p0:(List av)) (p1:Int) (p2:Int):pe none [.sl false false p0.length (ab aq p0),.int .i64 p1,.int .i64 p2]=(jl p0 p1 p2).map fun r:av×Int=>(.clean (.tup [.agg [.str r.1.ct,.int .i64 r.1.aN,.int .i64 r.1.aU,.int .i64 r.1.ca,.int .i64 r.1.bK],.int .i64 r.2]),none):=aE _ _ _ (p0,p1,p2)
noncomputable def mn:Env:=(Am.ext aT 91 false gT)
theorem Cs:bM Tryz.prog mn:=(bM.none.add lU false)
theorem cK:type_of% (ai @w<|ai @fF<|@mn.eq_1):=⟨@w,@fF,@mn.eq_1⟩
theorem FX (p0:(List av)) (p1:Int) (p2:Int) (r:av×Int) (hh:jl p0 p1 p2=some r):aQ .clean tab mn FU Tryz.f67 none [.sl false false p0.length (ab aq p0),.int .i64 p1,.int .i64 p2]=some (.clean (.tup [.agg [.str r.1.ct,.int .i64 r.1.aN,.int .i64 r.1.aU,.int .i64 r.1.ca,.int .i64 r.1.bK],.int .i64 r.2]),none):=by
 refine aw rfl Tryz.ntmps67 Tryz.results67 ?_
 unfold jl at hh
 obtain⟨r1,hr1,hh⟩:=ae hh
 try simp only[cK,seval,-Int.reduceToNat,hr1]
 obtain⟨o2,ho2,hh⟩:=ae hh
 refine bG 0 (fun s t H e=>match s with|s24j1=>∃v6j1:Nat,t 0=.sl false false p0.length (ab aq p0)∧t 1=.int .i64 p1∧t 2=.int .i64 p2∧t 6=.ptr 6 v6j1 0∧t 24=.bool s24j1∧H 6=some ⟨v6j1,87,[.str (ByteArray.mk #[]),.int .i64 0,.int .i64 0,.int .i64 0,.int .i64 0],false,false,false⟩) (fun s=>s=o2) ?_ ?_
 ·rintro s24j1 t H e ⟨v6j1,Zj1⟩ rfl
  try dsimp only at hh
  try simp only[cK,seval,-Int.reduceToNat,hr1,Zj1]
  refine sp aj hh (fun _ hh =>?_) (fun _ hh =>?_)
  ·cases hh
   try simp only[cK,seval,-Int.reduceToNat,hr1,Zj1]
  ·obtain⟨x4,hx4,hh⟩:=ae hh
   have ax4:=bT aq hx4
   simp only[bY]at ax4
   obtain⟨x5,hx5,hh⟩:=ae hh
   have ax5:=bT aq hx5
   simp only[bY]at ax5
   try simp only[cK,seval,-Int.reduceToNat,hr1,Zj1,ax4,ax5]
   refine b6 (by kernel_rfl) ?_
   try simp only[cK,seval,-Int.reduceToNat,hr1,Zj1,ax4,ax5]
   refine sp aP hh (fun _ hh =>?_) (fun _ hh =>?_)
   ·cases hh
    try simp only[cK,seval,-Int.reduceToNat,hr1,Zj1,ax4,ax5]
   ·try simp only[cK,seval,-Int.reduceToNat,hr1,Zj1,ax4,ax5]
    refine sp aj hh (fun _ hh =>?_) (fun _ hh =>?_)
    ·cases hh
     try simp only[cK,seval,-Int.reduceToNat,hr1,Zj1,ax4,ax5]
    ·cases hh
     try simp only[cK,seval,-Int.reduceToNat,hr1,Zj1,ax4,ax5]
 ·clear hh
  have hh:=ho2
  try simp only[cK,seval,-Int.reduceToNat,hr1]
  refine sp aP hh (fun _ hh =>?_) (fun _ hh =>?_)
  ·cases hh
   try simp only[cK,seval,-Int.reduceToNat,hr1]
   rw[al]
   refine⟨_,rfl,?_⟩
   refine⟨0,?_,?_,?_,?_,?_,?_⟩
   all_goals first|rfl|(simp only[cK,seval,-Int.reduceToNat,hr1]<;>rfl)
  ·obtain⟨r9,hr9,hh⟩:=ae hh
   cases hh
   try simp only[cK,seval,-Int.reduceToNat,hr1,hr9]
   rw[al]
   refine⟨_,rfl,?_⟩
   refine⟨0,?_,?_,?_,?_,?_,?_⟩
   all_goals first|rfl|(simp only[cK,seval,-Int.reduceToNat,hr1,hr9]<;>rfl)
theorem CO:bI Tryz.prog 67 pe:=bI.of (mode := .clean) tok Cs mixed Tryz.func67 (by kernel_rfl) ⟨by kernel_rfl,by kernel_rfl⟩ (fun _=>Nat.le_of_ble_eq_true (by kernel_rfl)) (fun x r h=>FX x.1 x.2.1 x.2.2 r h)
noncomputable def fp:=ez (dJ (dU fA)) (fun x:az=>dp x) (fun r:Bool =>.clean (.bool r))
theorem df (p0_0:(List av)):fp none [.agg [.sl false false p0_0.length (ab aq p0_0)]]=(dp (az.mk p0_0)).map fun r:Bool=>(.clean (.bool r),none):=aE _ _ _ ((az.mk p0_0))
noncomputable def lf:Env:=(Am.ext (Am.ext aT 51 false l5) 67 false pe)
theorem AQ:bM Tryz.prog lf:=((bM.none.add tH false).add CO false)
theorem bu:type_of% (ai @w<|ai @mz<|ai @vR<|@lf.eq_1):=⟨@w,@mz,@vR,@lf.eq_1⟩
theorem CF (p0:az) (r:Bool) (hh:dp p0=some r):aQ .clean tab lf FU Tryz.f39 none [.agg [.sl false false p0.ak.length (ab aq p0.ak)]]=some (.clean (.bool r),none):=by
 refine aw rfl Tryz.ntmps39 Tryz.results39 ?_
 unfold dp at hh
 try simp only[bu,seval,-Int.reduceToNat]
 refine sp aj hh (fun _ hh =>?_) (fun _ hh =>?_)
 ·cases hh
  try simp only[bu,seval,-Int.reduceToNat]
 ·try simp only[bu,seval,-Int.reduceToNat]
  obtain⟨o11,ho11,hh⟩:=ae hh
  refine ax (fun s t H e=>match s with|s14a=>∃v1a:Nat,t 1=.ptr 1 v1a 0∧t 12=.sl false false p0.ak.length (ab aq p0.ak)∧t 13=.int .i64 (p0.ak.length:Int)∧t 14=.int .i64 s14a∧H 1=some ⟨v1a,24,[.sl false false p0.ak.length (ab aq p0.ak)],false,false,false⟩) (fun o x t H e=>match o with|(.inl _)=>x=.exit 0|(.inr r)=>x=.ret∧fw .clean tab none [.tmp 2] ⟨t,H,e⟩=some (.clean (.bool r),none)) ho11 ?_ ?_ ?_
  ·refine⟨0,?_,?_,?_,?_,?_⟩
   all_goals first|rfl|(simp only[bu,seval,-Int.reduceToNat]<;>rfl)
  ·rintro s14a t H e ⟨v1a,Za⟩ c hh
   simp only[kh]at hh
   try simp only[bu,seval,-Int.reduceToNat,Za]
   refine sp aj hh (fun _ hh =>?_) (fun _ hh =>?_)
   ·obtain⟨x13,hx13,hh⟩:=ae hh
    have ax13:=bT aq hx13
    simp only[bY]at ax13
    obtain⟨r14,hr14,hh⟩:=ae hh
    try simp only[bu,seval,-Int.reduceToNat,Za,ax13,hr14]
    refine sp aj hh (fun _ hh =>?_) (fun _ hh =>?_)
    ·cases hh
     try simp only[bu,seval,-Int.reduceToNat,Za,ax13,hr14]
     refine jg ?_
     refine⟨v1a,?_,?_,?_,?_,?_⟩
     all_goals first|rfl|(simp only[bu,seval,-Int.reduceToNat,Za,ax13,hr14]<;>rfl)
    ·obtain⟨x16,hx16,hh⟩:=ae hh
     obtain⟨q17a,q17b,q17c,q17d,q17e⟩:=uD aq hx16
     simp only[bY]at q17e
     obtain⟨r18,hr18,hh⟩:=ae hh
     try simp only[bu,seval,-Int.reduceToNat,Za,ax13,hr14,q17a,q17b,q17c,q17d,q17e,hr18]
     refine b6 (by kernel_rfl) ?_
     try simp only[bu,seval,-Int.reduceToNat,Za,ax13,hr14,q17a,q17b,q17c,q17d,q17e,hr18]
     refine sp aP hh (fun _ hh =>?_) (fun _ hh =>?_)
     ·cases hh
      try simp only[bu,seval,-Int.reduceToNat,Za,ax13,hr14,q17a,q17b,q17c,q17d,q17e,hr18]
      refine wq ⟨rfl,?_⟩
      try simp only[bu,seval,-Int.reduceToNat,Za,ax13,hr14,q17a,q17b,q17c,q17d,q17e,hr18]
     ·try simp only[bu,seval,-Int.reduceToNat,Za,ax13,hr14,q17a,q17b,q17c,q17d,q17e,hr18]
      refine sp aj hh (fun _ hh =>?_) (fun _ hh =>?_)
      ·cases hh
       try simp only[bu,seval,-Int.reduceToNat,Za,ax13,hr14,q17a,q17b,q17c,q17d,q17e,hr18]
       refine wq ⟨rfl,?_⟩
       try simp only[bu,seval,-Int.reduceToNat,Za,ax13,hr14,q17a,q17b,q17c,q17d,q17e,hr18]
      ·cases hh
       try simp only[bu,seval,-Int.reduceToNat,Za,ax13,hr14,q17a,q17b,q17c,q17d,q17e,hr18]
       refine jg ?_
       refine⟨v1a,?_,?_,?_,?_,?_⟩
       all_goals first|rfl|(simp only[bu,seval,-Int.reduceToNat,Za,ax13,hr14,q17a,q17b,q17c,q17d,q17e,hr18]<;>rfl)
   ·cases hh
    try simp only[bu,seval,-Int.reduceToNat,Za]
    refine kl ?_
    exact rfl
  ·rintro x t H e hx
   rcases o11 with _|ra
   ·dsimp only at hx hh
    subst hx
    cases hh
    try simp only[bu,seval,-Int.reduceToNat]
   ·dsimp only at hx hh
    obtain⟨rfl,hE⟩:=hx
    cases hh
    try simp only[aZ,aR,bc,cu,cr]
    exact hE
theorem gZ:bI Tryz.prog 39 fp:=bI.of (mode := .clean) tok AQ mixed Tryz.func39 (by kernel_rfl) ⟨by kernel_rfl,by kernel_rfl⟩ (fun _=>Nat.le_of_ble_eq_true (by kernel_rfl)) (fun x r h=>CF x r h)
noncomputable def qV:=ez (dX RW (dX (aI .i64) (dJ (aI .i64)))) (fun x:ByteArray×Int×Int=>mH x.1 x.2.1 x.2.2) (fun r:av =>.clean (.agg [.str r.ct,.int .i64 r.aN,.int .i64 r.aU,.int .i64 r.ca,.int .i64 r.bK]))
theorem yi (p0:ByteArray) (p1:Int) (p2:Int):qV none [.str p0,.int .i64 p1,.int .i64 p2]=(mH p0 p1 p2).map fun r:av=>(.clean (.agg [.str r.ct,.int .i64 r.aN,.int .i64 r.aU,.int .i64 r.ca,.int .i64 r.bK]),none):=aE _ _ _ (p0,p1,p2)
theorem II (p0:ByteArray) (p1:Int) (p2:Int) (r:av) (hh:mH p0 p1 p2=some r):aQ .clean tab aT FU Tryz.f62 none [.str p0,.int .i64 p1,.int .i64 p2]=some (.clean (.agg [.str r.ct,.int .i64 r.aN,.int .i64 r.aU,.int .i64 r.ca,.int .i64 r.bK]),none):=by
 refine aw rfl Tryz.ntmps62 Tryz.results62 ?_
 unfold mH at hh
 cases hh
 try simp only[w,seval,-Int.reduceToNat]
theorem F9:bI Tryz.prog 62 qV:=bI.of (mode := .clean) tok bM.none mixed Tryz.func62 (by kernel_rfl) ⟨by kernel_rfl,by kernel_rfl⟩ (fun _=>Nat.le_of_ble_eq_true (by kernel_rfl)) (fun x r h=>II x.1 x.2.1 x.2.2 r h)
theorem w8 (r:(List av)) (hh:dD []=some r):aQ (.fresh 87 5) tab aT FU Tryz.f63 none [.sl true true 0 []]=some (.fresh 87 5 r.length (ab aq r),none):=by
 unfold dD at hh
 obtain⟨qa,qb,qc⟩:=l6 hh
 subst qa
 refine aw rfl Tryz.ntmps63 Tryz.results63 ?_
 simp only[w,seval,-Int.reduceToNat,Nat.lt_irrefl]
theorem w9 (r:(List av)) (hh:dD []=some r):aQ (.fresh 87 5) tab aT FU Tryz.f63 none [.sl true false 0 []]=some (.fresh 87 5 r.length (ab aq r),none):=by
 unfold dD at hh
 obtain⟨qa,qb,qc⟩:=l6 hh
 subst qa
 refine aw rfl Tryz.ntmps63 Tryz.results63 ?_
 simp only[w,seval,-Int.reduceToNat,Nat.lt_irrefl]
theorem xa (p0 r:(List av)) (hp:0<p0.length) (hh:dD p0=some r):aQ (.fresh 87 5) tab aT FU Tryz.f63 none [.sl false false p0.length (ab aq p0)]=some (.fresh 87 5 r.length (ab aq r),none):=by
 unfold dD at hh
 have hz:¬p0.length=0:=by omega
 obtain⟨qa,qb,qc⟩:=l6 hh
 subst qa
 refine aw rfl Tryz.ntmps63 Tryz.results63 ?_
 simp only[w,seval,-Int.reduceToNat,hp,hz,qb,qc]
noncomputable def jM:=ez (dJ (gg aq)) (fun x:(List av)=>dD x) (fun r:(List av) =>.fresh 87 5 r.length (ab aq r))
theorem j9 (p0:(List av)):jM none [.sl false false p0.length (ab aq p0)]=(dD p0).map fun r:(List av)=>(.fresh 87 5 r.length (ab aq r),none):=aE _ _ _ p0
theorem qv:bI Tryz.prog 63 jM:=bI.Tn (mode:=(.fresh 87 5)) tok bM.none mixed Tryz.func63 (by kernel_rfl) ⟨by kernel_rfl,by kernel_rfl⟩ (Nat.le_of_ble_eq_true (by kernel_rfl)) w8 w9 xa
noncomputable def PR:List D→List D→Option (List D):=oJ aq (dJ (dU aq)) J3
theorem UI:zp Tryz.prog 64 ⟨87,5,48,PR⟩:=TJ aq av.mk (fun _ _ _ _ _=>rfl) (fun x=>⟨_,_,_,_,_,rfl⟩)
theorem uA (l:List av) (p1_0:ByteArray) (p1_1:Int) (p1_2:Int) (p1_3:Int) (p1_4:Int) {z:List av} (h:oU l (av.mk p1_0 p1_1 p1_2 p1_3 p1_4)=some z):∃cs,PR (ab aq l) [.agg [.str p1_0,.int .i64 p1_1,.int .i64 p1_2,.int .i64 p1_3,.int .i64 p1_4]]=some cs∧ab aq l++cs=ab aq z∧l.length+1=z.length∧z.length*48≤140737488355328:=HV aq (A:=(dJ (dU aq))) (F:=J3) (b:=(av.mk p1_0 p1_1 p1_2 p1_3 p1_4)) h
theorem s9 (r:(List Int)) (hh:bd []=some r):aQ (.fresh 3 1) tab aT FU Tryz.f65 none [.sl true true 0 []]=some (.fresh 3 1 r.length (ab (eI .i64) r),none):=by
 unfold bd at hh
 obtain⟨qa,qb,qc⟩:=l6 hh
 subst qa
 refine aw rfl Tryz.ntmps65 Tryz.results65 ?_
 simp only[w,seval,-Int.reduceToNat,Nat.lt_irrefl]
theorem td (r:(List Int)) (hh:bd []=some r):aQ (.fresh 3 1) tab aT FU Tryz.f65 none [.sl true false 0 []]=some (.fresh 3 1 r.length (ab (eI .i64) r),none):=by
 unfold bd at hh
 obtain⟨qa,qb,qc⟩:=l6 hh
 subst qa
 refine aw rfl Tryz.ntmps65 Tryz.results65 ?_
 simp only[w,seval,-Int.reduceToNat,Nat.lt_irrefl]
theorem te (p0 r:(List Int)) (hp:0<p0.length) (hh:bd p0=some r):aQ (.fresh 3 1) tab aT FU Tryz.f65 none [.sl false false p0.length (ab (eI .i64) p0)]=some (.fresh 3 1 r.length (ab (eI .i64) r),none):=by
 unfold bd at hh
 have hz:¬p0.length=0:=by omega
 obtain⟨qa,qb,qc⟩:=l6 hh
 subst qa
 refine aw rfl Tryz.ntmps65 Tryz.results65 ?_
 simp only[w,seval,-Int.reduceToNat,hp,hz,qb,qc]
noncomputable def eh:=ez (dJ (gg (eI .i64))) (fun x:(List Int)=>bd x) (fun r:(List Int) =>.fresh 3 1 r.length (ab (eI .i64) r))
theorem da (p0:(List Int)):eh none [.sl false false p0.length (ab (eI .i64) p0)]=(bd p0).map fun r:(List Int)=>(.fresh 3 1 r.length (ab (eI .i64) r),none):=aE _ _ _ p0
theorem gn:bI Tryz.prog 65 eh:=bI.Tn (mode:=(.fresh 3 1)) tok bM.none mixed Tryz.func65 (by kernel_rfl) ⟨by kernel_rfl,by kernel_rfl⟩ (Nat.le_of_ble_eq_true (by kernel_rfl)) s9 td te
noncomputable def PS:List D→List D→Option (List D):=oJ aq (dX (aI .i64) (dJ (aI .i64))) (Bl av.mk (fun x=>x.aN) (fun x=>x.aU))
theorem UJ:zp Tryz.prog 66 ⟨87,5,48,PS⟩:=Sy aq av.mk (fun _ _ _ _ _=>rfl) (fun x=>⟨_,_,_,_,_,rfl⟩) (fun x=>x.aN) (fun x=>x.aU) (fun _ _ _ _ _=>rfl) (fun _ _ _ _ _=>rfl)
theorem tf (l:List av) (p1:Int) (p2:Int) {z:List av} (h:od l p1 p2=some z):∃cs,PS (ab aq l) [.int .i64 p1,.int .i64 p2]=some cs∧ab aq l++cs=ab aq z∧l.length+1=z.length∧z.length*48≤140737488355328:=HV aq (A:=(dX (aI .i64) (dJ (aI .i64)))) (F:=(Bl av.mk (fun x=>x.aN) (fun x=>x.aU))) (b:=(p1,p2)) h
noncomputable def pb:=ez (dX (dU fA) (dX (gg nA) (dX (gg (eI .i64)) (dJ (gg (eI .i64)))))) (fun x:az×(List ByteArray)×(List Int)×(List Int)=>kI x.1 x.2.1 x.2.2.1 x.2.2.2) (fun r:az×Int×(List Int)×Int =>.clean (.tup [.agg [.sl false false r.1.ak.length (ab aq r.1.ak)],.int .i64 r.2.1,.sl false false r.2.2.1.length (ab (eI .i64) r.2.2.1),.int .i64 r.2.2.2]))
theorem pT (p0_0:(List av)) (p1:(List ByteArray)) (p2:(List Int)) (p3:(List Int)):pb none [.agg [.sl false false p0_0.length (ab aq p0_0)],.sl false false p1.length (ab nA p1),.sl false false p2.length (ab (eI .i64) p2),.sl false false p3.length (ab (eI .i64) p3)]=(kI (az.mk p0_0) p1 p2 p3).map fun r:az×Int×(List Int)×Int=>(.clean (.tup [.agg [.sl false false r.1.ak.length (ab aq r.1.ak)],.int .i64 r.2.1,.sl false false r.2.2.1.length (ab (eI .i64) r.2.2.1),.int .i64 r.2.2.2]),none):=aE _ _ _ ((az.mk p0_0),p1,p2,p3)
noncomputable def mh:Env:=(Am.keep 82 (Am.keep 81 (Am.tC 14 1000014 (Am.wZ 66 ⟨87,5,48,PS⟩ (Am.ext (Am.wZ 64 ⟨87,5,48,PR⟩ (Am.ext (Am.ext (Am.ext aT 39 false fp) 62 false qV) 63 false jM)) 65 false eh)))))
theorem Cn:bM Tryz.prog mh:=(bM.keep (bM.keep (bM.tC (bM.wZ ((bM.wZ (((bM.none.add gZ false).add F9 false).add qv false) UI).add gn false) UJ) 14 1000014) 81) 82)
theorem au:type_of% (ai @w<|ai @df<|ai @yi<|ai @j9<|ai @da<|@mh.eq_1):=⟨@w,@df,@yi,@j9,@da,@mh.eq_1⟩
theorem FQ (p0:az) (p1:(List ByteArray)) (p2:(List Int)) (p3:(List Int)) (r:az×Int×(List Int)×Int) (hh:kI p0 p1 p2 p3=some r):aQ .clean tab mh FU Tryz.f37 none [.agg [.sl false false p0.ak.length (ab aq p0.ak)],.sl false false p1.length (ab nA p1),.sl false false p2.length (ab (eI .i64) p2),.sl false false p3.length (ab (eI .i64) p3)]=some (.clean (.tup [.agg [.sl false false r.1.ak.length (ab aq r.1.ak)],.int .i64 r.2.1,.sl false false r.2.2.1.length (ab (eI .i64) r.2.2.1),.int .i64 r.2.2.2]),none):=by
 refine aw rfl Tryz.ntmps37 Tryz.results37 ?_
 unfold kI at hh
 obtain⟨r1,hr1,hh⟩:=ae hh
 try simp only[au,ne_eq,not_false_eq_true,seval,-Int.reduceToNat,hr1]
 obtain⟨o2,ho2,hh⟩:=ae hh
 refine bG 0 (fun s t H e=>match s with|s39j1=>∃v4j1:Nat,∃v8j1:Nat,∃v10j1:Nat,t 1=.sl false false p1.length (ab nA p1)∧t 2=.sl false false p2.length (ab (eI .i64) p2)∧t 3=.sl false false p3.length (ab (eI .i64) p3)∧t 4=.ptr 4 v4j1 0∧t 8=.ptr 8 v8j1 0∧t 10=.buf 10 v10j1 1 0 0∧t 12=.int .i64 (p1.length:Int)∧t 39=.bool s39j1∧H 4=some ⟨v4j1,24,[.sl false false p0.ak.length (ab aq p0.ak)],false,false,false⟩∧H 8=some ⟨v8j1,24,[.sl true true 0 []],false,false,false⟩∧H 10=some ⟨v10j1,3,[],false,true,false⟩) (fun s=>s=o2) ?_ ?_
 ·rintro s39j1 t H e ⟨v4j1,v8j1,v10j1,Zj1⟩ rfl
  try dsimp only at hh
  try simp only[au,ne_eq,not_false_eq_true,seval,-Int.reduceToNat,hr1,Zj1]
  refine sp aj hh (fun _ hh =>?_) (fun _ hh =>?_)
  ·cases hh
   try simp only[au,ne_eq,not_false_eq_true,seval,-Int.reduceToNat,hr1,Zj1]
  ·try simp only[au,ne_eq,not_false_eq_true,seval,-Int.reduceToNat,hr1,Zj1]
   obtain⟨o12,ho12,hh⟩:=ae hh
   refine ax (fun s t H e=>match s with|s43b=>∃v4b:Nat,∃v8b:Nat,∃v10b:Nat,t 1=.sl false false p1.length (ab nA p1)∧t 2=.sl false false p2.length (ab (eI .i64) p2)∧t 3=.sl false false p3.length (ab (eI .i64) p3)∧t 4=.ptr 4 v4b 0∧t 8=.ptr 8 v8b 0∧t 10=.buf 10 v10b 1 0 0∧t 12=.int .i64 (p1.length:Int)∧t 42=.int .i64 (p1.length:Int)∧t 43=.int .i64 s43b∧H 4=some ⟨v4b,24,[.sl false false p0.ak.length (ab aq p0.ak)],false,false,false⟩∧H 8=some ⟨v8b,24,[.sl true true 0 []],false,false,false⟩∧H 10=some ⟨v10b,3,[],false,true,false⟩) (fun o x t H e=>match o with|(.inl _)=>x=.exit 0∧∃v4bx:Nat,∃v8bx:Nat,∃v10bx:Nat,t 1=.sl false false p1.length (ab nA p1)∧t 2=.sl false false p2.length (ab (eI .i64) p2)∧t 3=.sl false false p3.length (ab (eI .i64) p3)∧t 4=.ptr 4 v4bx 0∧t 8=.ptr 8 v8bx 0∧t 10=.buf 10 v10bx 1 0 0∧t 12=.int .i64 (p1.length:Int)∧H 4=some ⟨v4bx,24,[.sl false false p0.ak.length (ab aq p0.ak)],false,false,false⟩∧H 8=some ⟨v8bx,24,[.sl true true 0 []],false,false,false⟩∧H 10=some ⟨v10bx,3,[],false,true,false⟩|(.inr r)=>x=.ret∧fw .clean tab none [.cell 8 24,.tmp 9,.tmp 10,.tmp 11] ⟨t,H,e⟩=some (.clean (.tup [.agg [.sl false false r.1.ak.length (ab aq r.1.ak)],.int .i64 r.2.1,.sl false false r.2.2.1.length (ab (eI .i64) r.2.2.1),.int .i64 r.2.2.2]),none)) ho12 ?_ ?_ ?_
   ·refine⟨v4j1,v8j1,v10j1,?_,?_,?_,?_,?_,?_,?_,?_,?_,?_,?_,?_⟩
    all_goals first|rfl|(simp only[au,ne_eq,not_false_eq_true,seval,-Int.reduceToNat,hr1,Zj1]<;>rfl)
   ·rintro s43b t H e ⟨v4b,v8b,v10b,Zb⟩ c hh
    simp only[tU]at hh
    try simp only[au,ne_eq,not_false_eq_true,seval,-Int.reduceToNat,hr1,Zb]
    refine sp aj hh (fun _ hh =>?_) (fun _ hh =>?_)
    ·obtain⟨x14,hx14,hh⟩:=ae hh
     have ax14:=bT nA hx14
     simp only[bY]at ax14
     obtain⟨x15,hx15,hh⟩:=ae hh
     have ax15:=bT (eI .i64) hx15
     simp only[bY]at ax15
     obtain⟨x16,hx16,hh⟩:=ae hh
     have ax16:=bT (eI .i64) hx16
     simp only[bY]at ax16
     obtain⟨r17,hr17,hh⟩:=ae hh
     have i18:=df ([r17])
     simp only[aF,bY,List.length_cons,List.length_nil,Nat.zero_add,Nat.reduceAdd,List.length_set]at i18
     obtain⟨r19,hr19,hh⟩:=ae hh
     try simp only[au,ne_eq,not_false_eq_true,seval,-Int.reduceToNat,hr1,Zb,ax14,ax15,ax16,hr17,i18,hr19]
     refine b6 (by kernel_rfl) ?_
     try simp only[au,ne_eq,not_false_eq_true,seval,-Int.reduceToNat,hr1,Zb,ax14,ax15,ax16,hr17,i18,hr19]
     refine sp aj hh (fun _ hh =>?_) (fun _ hh =>?_)
     ·cases hh
      try simp only[au,ne_eq,not_false_eq_true,seval,-Int.reduceToNat,hr1,Zb,ax14,ax15,ax16,hr17,i18,hr19]
      refine wq ⟨rfl,?_⟩
      try simp only[au,ne_eq,not_false_eq_true,seval,-Int.reduceToNat,hr1,Zb,ax14,ax15,ax16,hr17,i18,hr19]
     ·cases hh
      try simp only[au,ne_eq,not_false_eq_true,seval,-Int.reduceToNat,hr1,Zb,ax14,ax15,ax16,hr17,i18,hr19]
      refine jg ?_
      refine⟨v4b,v8b,v10b,?_,?_,?_,?_,?_,?_,?_,?_,?_,?_,?_,?_⟩
      all_goals first|rfl|(simp only[au,ne_eq,not_false_eq_true,seval,-Int.reduceToNat,hr1,Zb,ax14,ax15,ax16,hr17,i18,hr19]<;>rfl)
    ·cases hh
     try simp only[au,ne_eq,not_false_eq_true,seval,-Int.reduceToNat,hr1,Zb]
     refine kl ?_
     refine⟨rfl,⟨v4b,v8b,v10b,?_,?_,?_,?_,?_,?_,?_,?_,?_,?_⟩⟩
     all_goals first|rfl|(simp only[au,ne_eq,not_false_eq_true,seval,-Int.reduceToNat,hr1,Zb]<;>rfl)
   ·rintro x t H e hx
    rcases o12 with _|rb
    ·dsimp only at hx hh
     obtain⟨rfl,⟨v4bx,v8bx,v10bx,Zbx⟩⟩:=hx
     try simp only[au,ne_eq,not_false_eq_true,seval,-Int.reduceToNat,hr1,Zbx]
     obtain⟨o21,ho21,hh⟩:=ae hh
     refine bG 0 (fun s t H e=>match s with|s76j3=>∃v4j3:Nat,∃v8j3:Nat,∃v10j3:Nat,t 1=.sl false false p1.length (ab nA p1)∧t 2=.sl false false p2.length (ab (eI .i64) p2)∧t 3=.sl false false p3.length (ab (eI .i64) p3)∧t 4=.ptr 4 v4j3 0∧t 8=.ptr 8 v8j3 0∧t 10=.buf 10 v10j3 1 0 0∧t 76=.bool s76j3∧H 4=some ⟨v4j3,24,[.sl false false p0.ak.length (ab aq p0.ak)],false,false,false⟩∧H 8=some ⟨v8j3,24,[.sl true true 0 []],false,false,false⟩∧H 10=some ⟨v10j3,3,[],false,true,false⟩) (fun s=>s=o21) ?_ ?_
     ·rintro s76j3 t H e ⟨v4j3,v8j3,v10j3,Zj3⟩ rfl
      try dsimp only at hh
      try simp only[au,ne_eq,not_false_eq_true,seval,-Int.reduceToNat,hr1,Zj3]
      refine sp aj hh (fun _ hh =>?_) (fun _ hh =>?_)
      ·cases hh
       try simp only[au,ne_eq,not_false_eq_true,seval,-Int.reduceToNat,hr1,Zj3]
      ·obtain⟨r23,hr23,hh⟩:=ae hh
       try simp only[au,ne_eq,not_false_eq_true,seval,-Int.reduceToNat,hr1,Zj3,hr23]
       obtain⟨o33,ho33,hh⟩:=ae hh
       refine ax (fun s t H e=>match s with|(s85d,l10d,l1000014d)=>∃v8d:Nat,∃v10d:Nat,∃v14d:Nat,∃v1000014d:Nat,t 1=.sl false false p1.length (ab nA p1)∧t 2=.sl false false p2.length (ab (eI .i64) p2)∧t 3=.sl false false p3.length (ab (eI .i64) p3)∧t 8=.ptr 8 v8d 0∧t 10=.buf 10 v10d 1 0 (l10d).length∧t 14=.pm 14 v14d 1000014∧t 84=.int .i64 (p1.length:Int)∧t 85=.int .i64 s85d∧H 8=some ⟨v8d,24,[.sl true true 0 []],false,false,false⟩∧H 10=some ⟨v10d,3,ab (eI .i64) l10d,false,true,false⟩∧H 14=some ⟨v14d,110,[.ph 1000014 5 ((l1000014d).length)],false,false,true⟩∧H 1000014=some ⟨v1000014d,87,ab aq l1000014d,false,true,false⟩) (fun o x t H e=>match o with|(l10dx,l1000014dx)=>x=.exit 2∧∃v8dx:Nat,∃v10dx:Nat,∃v14dx:Nat,∃v1000014dx:Nat,t 8=.ptr 8 v8dx 0∧t 10=.buf 10 v10dx 1 0 (l10dx).length∧t 14=.pm 14 v14dx 1000014∧H 8=some ⟨v8dx,24,[.sl true true 0 []],false,false,false⟩∧H 10=some ⟨v10dx,3,ab (eI .i64) l10dx,false,true,false⟩∧H 14=some ⟨v14dx,110,[.ph 1000014 5 ((l1000014dx).length)],false,false,true⟩∧H 1000014=some ⟨v1000014dx,87,ab aq l1000014dx,false,true,false⟩) ho33 ?_ ?_ ?_
       ·refine⟨v8j3,v10j3,e,0,?_,?_,?_,?_,?_,?_,?_,?_,?_,?_,?_,?_⟩
        all_goals first|rfl|(simp only[au,ne_eq,not_false_eq_true,seval,-Int.reduceToNat,hr1,Zj3,hr23]<;>rfl)
       ·rintro⟨s85d,l10d,l1000014d⟩ t H e ⟨v8d,v10d,v14d,v1000014d,Zd⟩ c hh
        simp only[tV]at hh
        try simp only[au,ne_eq,not_false_eq_true,seval,-Int.reduceToNat,hr1,hr23,Zd]
        refine sp aj hh (fun _ hh =>?_) (fun _ hh =>?_)
        ·obtain⟨x35,hx35,hh⟩:=ae hh
         have ax35:=bT nA hx35
         simp only[bY]at ax35
         obtain⟨x36,hx36,hh⟩:=ae hh
         have ax36:=bT (eI .i64) hx36
         simp only[bY]at ax36
         obtain⟨x37,hx37,hh⟩:=ae hh
         have ax37:=bT (eI .i64) hx37
         simp only[bY]at ax37
         obtain⟨r38,hr38,hh⟩:=ae hh
         obtain⟨x39,hx39,hh⟩:=ae hh
         obtain⟨q40w,q40a,q40b,q40c,q40d⟩:=uA l1000014d r38.ct r38.aN r38.aU r38.ca r38.bK hx39
         try simp only[bY]at q40a
         obtain⟨x41,hx41,hh⟩:=ae hh
         obtain⟨q42a,q42b,q42c,q42d⟩:=eo (eI .i64) hx41
         simp only[bY]at q42b
         try simp only[au,ne_eq,not_false_eq_true,seval,-Int.reduceToNat,hr1,hr23,Zd,ax35,ax36,ax37,hr38,q40a,q40b,q40c,q40d,q42a,q42b,q42c,q42d]
         refine b6 (by kernel_rfl) ?_
         cases hh
         try simp only[au,ne_eq,not_false_eq_true,seval,-Int.reduceToNat,hr1,hr23,Zd,ax35,ax36,ax37,hr38,q40a,q40b,q40c,q40d,q42a,q42b,q42c,q42d]
         refine jg ?_
         refine⟨v8d,e+1+1,v14d,v1000014d,?_,?_,?_,?_,?_,?_,?_,?_,?_,?_,?_,?_⟩
         all_goals first|rfl|(simp only[au,ne_eq,not_false_eq_true,seval,-Int.reduceToNat,hr1,hr23,Zd,ax35,ax36,ax37,hr38,q40a,q40b,q40c,q40d,q42a,q42b,q42c,q42d]<;>rfl)
        ·cases hh
         try simp only[au,ne_eq,not_false_eq_true,seval,-Int.reduceToNat,hr1,hr23,Zd]
         refine kl ?_
         refine⟨rfl,⟨v8d,v10d,v14d,v1000014d,?_,?_,?_,?_,?_,?_,?_⟩⟩
         all_goals first|rfl|(simp only[au,ne_eq,not_false_eq_true,seval,-Int.reduceToNat,hr1,hr23,Zd]<;>rfl)
       ·rintro x t H e hx
        rcases o33 with⟨l10dx,l1000014dx⟩
        dsimp only at hx hh
        obtain⟨rfl,⟨v8dx,v10dx,v14dx,v1000014dx,Zdx⟩⟩:=hx
        obtain⟨r43,hr43,hh⟩:=ae hh
        try simp only[au,ne_eq,not_false_eq_true,seval,-Int.reduceToNat,hr1,hr23,Zdx,hr43]
        obtain⟨o66,ho66,hh⟩:=ae hh
        refine ax (fun s t H e=>match s with|(l16e,l1000014e)=>∃v8e:Nat,∃v10e:Nat,∃v14e:Nat,∃v16e:Nat,∃v1000014e:Nat,t 8=.ptr 8 v8e 0∧t 10=.buf 10 v10e 1 0 (l10dx).length∧t 14=.pm 14 v14e 1000014∧t 16=.buf 16 v16e 1 0 (l16e).length∧H 8=some ⟨v8e,24,[.sl true true 0 []],false,false,false⟩∧H 10=some ⟨v10e,3,ab (eI .i64) l10dx,false,true,false⟩∧H 14=some ⟨v14e,110,[.ph 1000014 5 ((l1000014e).length)],false,false,true⟩∧H 16=some ⟨v16e,3,ab (eI .i64) l16e,false,true,false⟩∧H 1000014=some ⟨v1000014e,87,ab aq l1000014e,false,true,false⟩) (fun o x t H e=>match o with|(l16ex,l1000014ex)=>x=.exit 4∧∃v8ex:Nat,∃v10ex:Nat,∃v14ex:Nat,∃v16ex:Nat,∃v1000014ex:Nat,t 8=.ptr 8 v8ex 0∧t 10=.buf 10 v10ex 1 0 (l10dx).length∧t 14=.pm 14 v14ex 1000014∧t 16=.buf 16 v16ex 1 0 (l16ex).length∧H 8=some ⟨v8ex,24,[.sl true true 0 []],false,false,false⟩∧H 10=some ⟨v10ex,3,ab (eI .i64) l10dx,false,true,false⟩∧H 14=some ⟨v14ex,110,[.ph 1000014 5 ((l1000014ex).length)],false,false,true⟩∧H 16=some ⟨v16ex,3,ab (eI .i64) l16ex,false,true,false⟩∧H 1000014=some ⟨v1000014ex,87,ab aq l1000014ex,false,true,false⟩) ho66 ?_ ?_ ?_
        ·refine⟨v8dx,v10dx,v14dx,e,v1000014dx,?_,?_,?_,?_,?_,?_,?_,?_,?_⟩
         all_goals first|rfl|(simp only[au,ne_eq,not_false_eq_true,seval,-Int.reduceToNat,hr1,hr23,Zdx,hr43]<;>rfl)
        ·rintro⟨l16e,l1000014e⟩ t H e ⟨v8e,v10e,v14e,v16e,v1000014e,Ze⟩ c hh
         simp only[tW]at hh
         try simp only[au,ne_eq,not_false_eq_true,seval,-Int.reduceToNat,hr1,hr23,hr43,Ze]
         refine sp aj hh (fun _ hh =>?_) (fun _ hh =>?_)
         ·try simp only[au,ne_eq,not_false_eq_true,seval,-Int.reduceToNat,hr1,hr23,hr43,Ze]
          obtain⟨o75,ho75,hh⟩:=ae hh
          refine ax (fun s t H e=>match s with|(s18g,l17g,l1000014g)=>∃v8g:Nat,∃v10g:Nat,∃v14g:Nat,∃v16g:Nat,∃v17g:Nat,∃v1000014g:Nat,t 8=.ptr 8 v8g 0∧t 10=.buf 10 v10g 1 0 (l10dx).length∧t 14=.pm 14 v14g 1000014∧t 16=.buf 16 v16g 1 0 (l16e).length∧t 17=.buf 17 v17g 1 0 (l17g).length∧t 18=.int .i64 s18g∧H 8=some ⟨v8g,24,[.sl true true 0 []],false,false,false⟩∧H 10=some ⟨v10g,3,ab (eI .i64) l10dx,false,true,false⟩∧H 14=some ⟨v14g,110,[.ph 1000014 5 ((l1000014g).length)],false,false,true⟩∧H 16=some ⟨v16g,3,ab (eI .i64) l16e,false,true,false⟩∧H 17=some ⟨v17g,3,ab (eI .i64) l17g,false,true,false⟩∧H 1000014=some ⟨v1000014g,87,ab aq l1000014g,false,true,false⟩) (fun o x t H e=>match o with|(l17gx,l1000014gx)=>x=.exit 6∧∃v8gx:Nat,∃v10gx:Nat,∃v14gx:Nat,∃v16gx:Nat,∃v17gx:Nat,∃v1000014gx:Nat,t 8=.ptr 8 v8gx 0∧t 10=.buf 10 v10gx 1 0 (l10dx).length∧t 14=.pm 14 v14gx 1000014∧t 16=.buf 16 v16gx 1 0 (l16e).length∧t 17=.buf 17 v17gx 1 0 (l17gx).length∧H 8=some ⟨v8gx,24,[.sl true true 0 []],false,false,false⟩∧H 10=some ⟨v10gx,3,ab (eI .i64) l10dx,false,true,false⟩∧H 14=some ⟨v14gx,110,[.ph 1000014 5 ((l1000014gx).length)],false,false,true⟩∧H 16=some ⟨v16gx,3,ab (eI .i64) l16e,false,true,false⟩∧H 17=some ⟨v17gx,3,ab (eI .i64) l17gx,false,true,false⟩∧H 1000014=some ⟨v1000014gx,87,ab aq l1000014gx,false,true,false⟩) ho75 ?_ ?_ ?_
          ·refine⟨v8e,v10e,v14e,v16e,e+1,v1000014e,?_,?_,?_,?_,?_,?_,?_,?_,?_,?_,?_,?_⟩
           all_goals first|rfl|(simp only[au,ne_eq,not_false_eq_true,seval,-Int.reduceToNat,hr1,hr23,hr43,Ze]<;>rfl)
          ·rintro⟨s18g,l17g,l1000014g⟩ t H e ⟨v8g,v10g,v14g,v16g,v17g,v1000014g,Zg⟩ c hh
           simp only[tX]at hh
           try simp only[au,ne_eq,not_false_eq_true,seval,-Int.reduceToNat,hr1,hr23,hr43,Zg]
           refine sp aj hh (fun _ hh =>?_) (fun _ hh =>?_)
           ·obtain⟨x77,hx77,hh⟩:=ae hh
            have ax77:=bT (eI .i64) hx77
            simp only[bY]at ax77
            obtain⟨x78,hx78,hh⟩:=ae hh
            have ax78:=bT (eI .i64) hx78
            simp only[bY]at ax78
            obtain⟨x79,hx79,hh⟩:=ae hh
            obtain⟨q80w,q80a,q80b,q80c,q80d⟩:=tf l1000014g x77 x78 hx79
            try simp only[bY]at q80a
            obtain⟨x81,hx81,hh⟩:=ae hh
            obtain⟨q82a,q82b,q82c,q82d⟩:=eo (eI .i64) hx81
            simp only[bY]at q82b
            try simp only[au,ne_eq,not_false_eq_true,seval,-Int.reduceToNat,hr1,hr23,hr43,Zg,ax77,ax78,q80a,q80b,q80c,q80d,q82a,q82b,q82c,q82d]
            refine b6 (by kernel_rfl) ?_
            cases hh
            try simp only[au,ne_eq,not_false_eq_true,seval,-Int.reduceToNat,hr1,hr23,hr43,Zg,ax77,ax78,q80a,q80b,q80c,q80d,q82a,q82b,q82c,q82d]
            refine jg ?_
            refine⟨v8g,v10g,v14g,v16g,e+1,v1000014g,?_,?_,?_,?_,?_,?_,?_,?_,?_,?_,?_,?_⟩
            all_goals first|rfl|(simp only[au,ne_eq,not_false_eq_true,seval,-Int.reduceToNat,hr1,hr23,hr43,Zg,ax77,ax78,q80a,q80b,q80c,q80d,q82a,q82b,q82c,q82d]<;>rfl)
           ·cases hh
            try simp only[au,ne_eq,not_false_eq_true,seval,-Int.reduceToNat,hr1,hr23,hr43,Zg]
            refine kl ?_
            refine⟨rfl,⟨v8g,v10g,v14g,v16g,v17g,v1000014g,?_,?_,?_,?_,?_,?_,?_,?_,?_,?_,?_⟩⟩
            all_goals first|rfl|(simp only[au,ne_eq,not_false_eq_true,seval,-Int.reduceToNat,hr1,hr23,hr43,Zg]<;>rfl)
          ·rintro x t H e hx
           rcases o75 with⟨l17gx,l1000014gx⟩
           dsimp only at hx hh
           obtain⟨rfl,⟨v8gx,v10gx,v14gx,v16gx,v17gx,v1000014gx,Zgx⟩⟩:=hx
           obtain⟨x83,hx83,hh⟩:=ae hh
           have q84:=pM hx83
           try simp only[au,ne_eq,not_false_eq_true,seval,-Int.reduceToNat,hr1,hr23,hr43,Zgx,q84]
           refine sp aj hh (fun _ hh =>?_) (fun _ hh =>?_)
           ·obtain⟨x86,hx86,hh⟩:=ae hh
            have ax86:=bT (eI .i64) hx86
            simp only[bY]at ax86
            obtain⟨x87,hx87,hh⟩:=ae hh
            obtain⟨q88a,q88b,q88c,q88d⟩:=eo (eI .i64) hx87
            simp only[bY]at q88b
            cases hh
            try simp only[au,ne_eq,not_false_eq_true,seval,-Int.reduceToNat,hr1,hr23,hr43,Zgx,q84,ax86,q88a,q88b,q88c,q88d]
            refine jg ?_
            refine⟨v8gx,v10gx,v14gx,e+1+1,v1000014gx,?_,?_,?_,?_,?_,?_,?_,?_,?_⟩
            all_goals first|rfl|(simp only[au,ne_eq,not_false_eq_true,seval,-Int.reduceToNat,hr1,hr23,hr43,Zgx,q84,ax86,q88a,q88b,q88c,q88d]<;>rfl)
           ·cases hh
            try simp only[au,ne_eq,not_false_eq_true,seval,-Int.reduceToNat,hr1,hr23,hr43,Zgx,q84]
            refine jg ?_
            refine⟨v8gx,v10gx,v14gx,e+1,v1000014gx,?_,?_,?_,?_,?_,?_,?_,?_,?_⟩
            all_goals first|rfl|(simp only[au,ne_eq,not_false_eq_true,seval,-Int.reduceToNat,hr1,hr23,hr43,Zgx,q84]<;>rfl)
         ·cases hh
          try simp only[au,ne_eq,not_false_eq_true,seval,-Int.reduceToNat,hr1,hr23,hr43,Ze]
          refine kl ?_
          refine⟨rfl,⟨v8e,v10e,v14e,v16e,v1000014e,?_,?_,?_,?_,?_,?_,?_,?_,?_⟩⟩
          all_goals first|rfl|(simp only[au,ne_eq,not_false_eq_true,seval,-Int.reduceToNat,hr1,hr23,hr43,Ze]<;>rfl)
        ·rintro x t H e hx
         rcases o66 with⟨l16ex,l1000014ex⟩
         dsimp only at hx hh
         obtain⟨rfl,⟨v8ex,v10ex,v14ex,v16ex,v1000014ex,Zex⟩⟩:=hx
         obtain⟨x89,hx89,hh⟩:=ae hh
         have ax89:=bT (eI .i64) hx89
         simp only[bY]at ax89
         try simp only[au,ne_eq,not_false_eq_true,seval,-Int.reduceToNat,hr1,hr23,hr43,Zex,ax89]
         refine b6 (by kernel_rfl) ?_
         cases hh
         try simp only[au,ne_eq,not_false_eq_true,seval,-Int.reduceToNat,hr1,hr23,hr43,Zex,ax89]
     ·clear hh
      have hh:=ho21
      try simp only[au,ne_eq,not_false_eq_true,seval,-Int.reduceToNat,hr1,Zbx]
      refine sp aP hh (fun _ hh =>?_) (fun _ hh =>?_)
      ·cases hh
       try simp only[au,ne_eq,not_false_eq_true,seval,-Int.reduceToNat,hr1,Zbx]
       rw[al]
       refine⟨_,rfl,?_⟩
       refine⟨v4bx,v8bx,v10bx,?_,?_,?_,?_,?_,?_,?_,?_,?_,?_⟩
       all_goals first|rfl|(simp only[au,ne_eq,not_false_eq_true,seval,-Int.reduceToNat,hr1,Zbx]<;>rfl)
      ·cases hh
       try simp only[au,ne_eq,not_false_eq_true,seval,-Int.reduceToNat,hr1,Zbx]
       rw[al]
       refine⟨_,rfl,?_⟩
       refine⟨v4bx,v8bx,v10bx,?_,?_,?_,?_,?_,?_,?_,?_,?_,?_⟩
       all_goals first|rfl|(simp only[au,ne_eq,not_false_eq_true,seval,-Int.reduceToNat,hr1,Zbx]<;>rfl)
    ·dsimp only at hx hh
     obtain⟨rfl,hE⟩:=hx
     cases hh
     try simp only[aZ,aR,bc,cu,cr]
     exact hE
 ·clear hh
  have hh:=ho2
  try simp only[au,ne_eq,not_false_eq_true,seval,-Int.reduceToNat,hr1]
  refine sp aP hh (fun _ hh =>?_) (fun _ hh =>?_)
  ·cases hh
   try simp only[au,ne_eq,not_false_eq_true,seval,-Int.reduceToNat,hr1]
   rw[al]
   refine⟨_,rfl,?_⟩
   refine⟨0,0,0,?_,?_,?_,?_,?_,?_,?_,?_,?_,?_,?_⟩
   all_goals first|rfl|(simp only[au,ne_eq,not_false_eq_true,seval,-Int.reduceToNat,hr1]<;>rfl)
  ·try simp only[au,ne_eq,not_false_eq_true,seval,-Int.reduceToNat,hr1]
   refine sp aP hh (fun _ hh =>?_) (fun _ hh =>?_)
   ·cases hh
    try simp only[au,ne_eq,not_false_eq_true,seval,-Int.reduceToNat,hr1]
    rw[al]
    refine⟨_,rfl,?_⟩
    refine⟨0,0,0,?_,?_,?_,?_,?_,?_,?_,?_,?_,?_,?_⟩
    all_goals first|rfl|(simp only[au,ne_eq,not_false_eq_true,seval,-Int.reduceToNat,hr1]<;>rfl)
   ·try simp only[au,ne_eq,not_false_eq_true,seval,-Int.reduceToNat,hr1]
    refine sp aP hh (fun _ hh =>?_) (fun _ hh =>?_)
    ·cases hh
     try simp only[au,ne_eq,not_false_eq_true,seval,-Int.reduceToNat,hr1]
     rw[al]
     refine⟨_,rfl,?_⟩
     refine⟨0,0,0,?_,?_,?_,?_,?_,?_,?_,?_,?_,?_,?_⟩
     all_goals first|rfl|(simp only[au,ne_eq,not_false_eq_true,seval,-Int.reduceToNat,hr1]<;>rfl)
    ·cases hh
     try simp only[au,ne_eq,not_false_eq_true,seval,-Int.reduceToNat,hr1]
     rw[al]
     refine⟨_,rfl,?_⟩
     refine⟨0,0,0,?_,?_,?_,?_,?_,?_,?_,?_,?_,?_,?_⟩
     all_goals first|rfl|(simp only[au,ne_eq,not_false_eq_true,seval,-Int.reduceToNat,hr1]<;>rfl)
theorem CL:bI Tryz.prog 37 pb:=bI.of (mode := .clean) tok Cn mixed Tryz.func37 (by kernel_rfl) ⟨by kernel_rfl,by kernel_rfl⟩ (fun _=>Nat.le_of_ble_eq_true (by kernel_rfl)) (fun x r h=>FQ x.1 x.2.1 x.2.2.1 x.2.2.2 r h)
noncomputable def mK:=ez (dX (gg (eI .i64)) (dJ (gg (eI .i64)))) (fun x:(List Int)×(List Int)=>fh x.1 x.2) (fun r:Bool =>.clean (.bool r))
theorem j8 (p0:(List Int)) (p1:(List Int)):mK none [.sl false false p0.length (ab (eI .i64) p0),.sl false false p1.length (ab (eI .i64) p1)]=(fh p0 p1).map fun r:Bool=>(.clean (.bool r),none):=aE _ _ _ (p0,p1)
theorem A6 (p0:(List Int)) (p1:(List Int)) (r:Bool) (hh:fh p0 p1=some r):aQ .clean tab aT FU Tryz.f18 none [.sl false false p0.length (ab (eI .i64) p0),.sl false false p1.length (ab (eI .i64) p1)]=some (.clean (.bool r),none):=by
 refine aw rfl Tryz.ntmps18 Tryz.results18 ?_
 unfold fh at hh
 try simp only[w,seval,-Int.reduceToNat]
 refine sp aj hh (fun _ hh =>?_) (fun _ hh =>?_)
 ·cases hh
  try simp only[w,seval,-Int.reduceToNat]
 ·try simp only[w,seval,-Int.reduceToNat]
  obtain⟨o6,ho6,hh⟩:=ae hh
  refine ax (fun s t H e=>match s with|s5a=>t 0=.sl false false p0.length (ab (eI .i64) p0)∧t 1=.sl false false p1.length (ab (eI .i64) p1)∧t 5=.int .i64 s5a) (fun o x t H e=>match o with|(.inl _)=>x=.exit 0|(.inr r)=>x=.ret∧fw .clean tab none [.tmp 4] ⟨t,H,e⟩=some (.clean (.bool r),none)) ho6 ?_ ?_ ?_
  ·refine⟨?_,?_,?_⟩
   all_goals first|rfl|(simp only[w,seval,-Int.reduceToNat]<;>rfl)
  ·rintro s5a t H e Za c hh
   simp only[qA]at hh
   try simp only[w,seval,-Int.reduceToNat,Za]
   refine sp aj hh (fun _ hh =>?_) (fun _ hh =>?_)
   ·obtain⟨x8,hx8,hh⟩:=ae hh
    have ax8:=bT (eI .i64) hx8
    simp only[bY]at ax8
    obtain⟨x9,hx9,hh⟩:=ae hh
    have ax9:=bT (eI .i64) hx9
    simp only[bY]at ax9
    try simp only[w,seval,-Int.reduceToNat,Za,ax8,ax9]
    refine b6 (by kernel_rfl) ?_
    try simp only[w,seval,-Int.reduceToNat,Za,ax8,ax9]
    refine sp aj hh (fun _ hh =>?_) (fun _ hh =>?_)
    ·cases hh
     try simp only[w,seval,-Int.reduceToNat,Za,ax8,ax9]
     refine wq ⟨rfl,?_⟩
     try simp only[w,seval,-Int.reduceToNat,Za,ax8,ax9]
    ·cases hh
     try simp only[w,seval,-Int.reduceToNat,Za,ax8,ax9]
     refine jg ?_
     refine⟨?_,?_,?_⟩
     all_goals first|rfl|(simp only[w,seval,-Int.reduceToNat,Za,ax8,ax9]<;>rfl)
   ·cases hh
    try simp only[w,seval,-Int.reduceToNat,Za]
    refine kl ?_
    exact rfl
  ·rintro x t H e hx
   rcases o6 with _|ra
   ·dsimp only at hx hh
    subst hx
    cases hh
    try simp only[w,seval,-Int.reduceToNat]
   ·dsimp only at hx hh
    obtain⟨rfl,hE⟩:=hx
    cases hh
    try simp only[aZ,aR,bc,cu,cr]
    exact hE
theorem yT:bI Tryz.prog 18 mK:=bI.of (mode := .clean) tok bM.none mixed Tryz.func18 (by kernel_rfl) ⟨by kernel_rfl,by kernel_rfl⟩ (fun _=>Nat.le_of_ble_eq_true (by kernel_rfl)) (fun x r h=>A6 x.1 x.2 r h)
noncomputable def jd:=ez (dJ (gg (eI .i64))) (fun x:(List Int)=>ie x) (fun r:(List Int) =>.clean (.sl false false r.length (ab (eI .i64) r)))
theorem eS (p0:(List Int)):jd none [.sl false false p0.length (ab (eI .i64) p0)]=(ie p0).map fun r:(List Int)=>(.clean (.sl false false r.length (ab (eI .i64) r)),none):=aE _ _ _ (p0)
theorem KK (p0:(List Int)) (r:(List Int)) (hh:ie p0=some r):aQ .clean tab aT FU Tryz.f169 none [.sl false false p0.length (ab (eI .i64) p0)]=some (.clean (.sl false false r.length (ab (eI .i64) r)),none):=by
 refine aw rfl Tryz.ntmps169 Tryz.results169 ?_
 unfold ie at hh
 try simp only[w,seval,-Int.reduceToNat]
 obtain⟨o4,ho4,hh⟩:=ae hh
 refine ax (fun s t H e=>match s with|s3a=>t 0=.sl false false p0.length (ab (eI .i64) p0)∧t 3=.int .i64 s3a) (fun o x t H e=>match o with|s3ax=>x=.exit 0∧t 0=.sl false false p0.length (ab (eI .i64) p0)∧t 3=.int .i64 s3ax) ho4 ?_ ?_ ?_
 ·refine⟨?_,?_⟩
  all_goals first|rfl|(simp only[w,seval,-Int.reduceToNat]<;>rfl)
 ·rintro s3a t H e Za c hh
  simp only[yp]at hh
  try simp only[w,seval,-Int.reduceToNat,Za]
  refine sp bm hh (fun _ hh =>?_) (fun _ hh =>?_)
  ·obtain⟨x6,hx6,hh⟩:=ae hh
   have ax6:=bT (eI .i64) hx6
   simp only[bY]at ax6
   try simp only[w,seval,-Int.reduceToNat,Za,ax6]
   refine sp aj hh (fun _ hh =>?_) (fun _ hh =>?_)
   ·cases hh
    try simp only[w,seval,-Int.reduceToNat,Za,ax6]
    refine jg ?_
    refine⟨?_,?_⟩
    all_goals first|rfl|(simp only[w,seval,-Int.reduceToNat,Za,ax6]<;>rfl)
   ·cases hh
    try simp only[w,seval,-Int.reduceToNat,Za,ax6]
    refine kl ?_
    refine⟨rfl,⟨?_,?_⟩⟩
    all_goals first|rfl|(simp only[w,seval,-Int.reduceToNat,Za,ax6]<;>rfl)
  ·cases hh
   try simp only[w,seval,-Int.reduceToNat,Za]
   refine kl ?_
   refine⟨rfl,⟨?_,?_⟩⟩
   all_goals first|rfl|(simp only[w,seval,-Int.reduceToNat,Za]<;>rfl)
 ·rintro x t H e hx
  obtain⟨s3ax,rfl⟩:∃z,z=o4:=⟨_,rfl⟩
  dsimp only at hx hh
  obtain⟨rfl,Zax⟩:=hx
  obtain⟨x8,hx8,hh⟩:=ae hh
  obtain⟨q9a,q9b,q9c,q9d,q9e⟩:=uD (eI .i64) hx8
  simp only[bY]at q9e
  obtain⟨x10,hx10,hh⟩:=ae hh
  obtain⟨q11a,q11b,q11c⟩:=l6 hx10
  replace q11a:=q11a.symm
  subst q11a
  cases hh
  try simp only[w,seval,-Int.reduceToNat,Zax,q9a,q9b,q9c,q9d,q9e,q11b,q11c]
theorem lC:bI Tryz.prog 169 jd:=bI.of (mode := .clean) tok bM.none mixed Tryz.func169 (by kernel_rfl) ⟨by kernel_rfl,by kernel_rfl⟩ (fun _=>Nat.le_of_ble_eq_true (by kernel_rfl)) (fun x r h=>KK x r h)
noncomputable def ku:=ez (dX (aI .i64) (dJ (gg (eI .i64)))) (fun x:Int×(List Int)=>ic x.1 x.2) (fun r:ay =>.clean (.agg [.int .i64 r.ah,.sl false false r.aa.length (ab (eI .i64) r.aa)]))
theorem ia (p0:Int) (p1:(List Int)):ku none [.int .i64 p0,.sl false false p1.length (ab (eI .i64) p1)]=(ic p0 p1).map fun r:ay=>(.clean (.agg [.int .i64 r.ah,.sl false false r.aa.length (ab (eI .i64) r.aa)]),none):=aE _ _ _ (p0,p1)
noncomputable def pF:Env:=(Am.ext aT 169 false jd)
theorem HR:bM Tryz.prog pF:=(bM.none.add lC false)
theorem uJ:type_of% (ai @w<|ai @eS<|@pF.eq_1):=⟨@w,@eS,@pF.eq_1⟩
theorem KH (p0:Int) (p1:(List Int)) (r:ay) (hh:ic p0 p1=some r):aQ .clean tab pF FU Tryz.f133 none [.int .i64 p0,.sl false false p1.length (ab (eI .i64) p1)]=some (.clean (.agg [.int .i64 r.ah,.sl false false r.aa.length (ab (eI .i64) r.aa)]),none):=by
 refine aw rfl Tryz.ntmps133 Tryz.results133 ?_
 unfold ic at hh
 obtain⟨r1,hr1,hh⟩:=ae hh
 try simp only[uJ,seval,-Int.reduceToNat,hr1]
 refine sp aj hh (fun _ hh =>?_) (fun _ hh =>?_)
 ·cases hh
  try simp only[uJ,seval,-Int.reduceToNat,hr1]
 ·cases hh
  try simp only[uJ,seval,-Int.reduceToNat,hr1]
theorem nT:bI Tryz.prog 133 ku:=bI.of (mode := .clean) tok HR mixed Tryz.func133 (by kernel_rfl) ⟨by kernel_rfl,by kernel_rfl⟩ (fun _=>Nat.le_of_ble_eq_true (by kernel_rfl)) (fun x r h=>KH x.1 x.2 r h)
noncomputable def zm:=ez (dJ (aI .i64)) (fun x:Int=>xh x) (fun r:ay =>.clean (.agg [.int .i64 r.ah,.sl false false r.aa.length (ab (eI .i64) r.aa)]))
theorem Jg (p0:Int):zm none [.int .i64 p0]=(xh p0).map fun r:ay=>(.clean (.agg [.int .i64 r.ah,.sl false false r.aa.length (ab (eI .i64) r.aa)]),none):=aE _ _ _ (p0)
noncomputable def vr:Env:=(Am.ext aT 133 false ku)
theorem NF:bM Tryz.prog vr:=(bM.none.add nT false)
theorem dF:type_of% (ai @w<|ai @ia<|@vr.eq_1):=⟨@w,@ia,@vr.eq_1⟩
theorem Qa (p0:Int) (r:ay) (hh:xh p0=some r):aQ .clean tab vr FU Tryz.f103 none [.int .i64 p0]=some (.clean (.agg [.int .i64 r.ah,.sl false false r.aa.length (ab (eI .i64) r.aa)]),none):=by
 refine aw rfl Tryz.ntmps103 Tryz.results103 ?_
 unfold xh at hh
 try simp only[dF,seval,-Int.reduceToNat]
 refine sp aj hh (fun _ hh =>?_) (fun _ hh =>?_)
 ·cases hh
  try simp only[dF,seval,-Int.reduceToNat]
 ·try simp only[dF,seval,-Int.reduceToNat]
  obtain⟨o2,ho2,hh⟩:=ae hh
  refine lM 0 (fun s t H e=>match s with|s3j1=>∃v2j1:Nat,t 0=.int .i64 p0∧t 2=.ptr 2 v2j1 0∧t 3=.int .i64 s3j1∧H 2=some ⟨v2j1,49,[.int .i64 0,.sl true true 0 []],false,false,false⟩) (fun s=>s=o2) ?_ ?_
  ·rintro s3j1 t H e ⟨v2j1,Zj1⟩ rfl
   try dsimp only at hh
   try simp only[dF,seval,-Int.reduceToNat,Zj1]
   obtain⟨o15,ho15,hh⟩:=ae hh
   refine ax (fun s t H e=>match s with|(s0b,l4b)=>∃v2b:Nat,∃v4b:Nat,t 0=.int .i64 s0b∧t 2=.ptr 2 v2b 0∧t 3=.int .i64 s3j1∧t 4=.buf 4 v4b 1 0 (l4b).length∧H 2=some ⟨v2b,49,[.int .i64 0,.sl true true 0 []],false,false,false⟩∧H 4=some ⟨v4b,3,ab (eI .i64) l4b,false,true,false⟩) (fun o x t H e=>match o with|l4bx=>x=.exit 0∧∃v2bx:Nat,∃v4bx:Nat,t 2=.ptr 2 v2bx 0∧t 3=.int .i64 s3j1∧t 4=.buf 4 v4bx 1 0 (l4bx).length∧H 2=some ⟨v2bx,49,[.int .i64 0,.sl true true 0 []],false,false,false⟩∧H 4=some ⟨v4bx,3,ab (eI .i64) l4bx,false,true,false⟩) ho15 ?_ ?_ ?_
   ·refine⟨v2j1,e,?_,?_,?_,?_,?_,?_⟩
    all_goals first|rfl|(simp only[dF,seval,-Int.reduceToNat,Zj1]<;>rfl)
   ·rintro⟨s0b,l4b⟩ t H e ⟨v2b,v4b,Zb⟩ c hh
    simp only[EC]at hh
    try simp only[dF,seval,-Int.reduceToNat,Zb]
    refine sp aj hh (fun _ hh =>?_) (fun _ hh =>?_)
    ·obtain⟨x17,hx17,hh⟩:=ae hh
     have q18:=pM hx17
     try simp only[dF,seval,-Int.reduceToNat,Zb,q18]
     refine sp aj hh (fun _ hh =>?_) (fun _ hh =>?_)
     ·obtain⟨x20,hx20,hh⟩:=ae hh
      obtain⟨q21a,q21b,q21c,q21d⟩:=eo (eI .i64) hx20
      simp only[bY]at q21b
      obtain⟨x22,hx22,hh⟩:=ae hh
      have q23:=pz hx22
      cases hh
      try simp only[dF,seval,-Int.reduceToNat,Zb,q18,q21a,q21b,q21c,q21d,q23]
      refine jg ?_
      refine⟨v2b,e+1+1+1+1,?_,?_,?_,?_,?_,?_⟩
      all_goals first|rfl|(simp only[dF,seval,-Int.reduceToNat,Zb,q18,q21a,q21b,q21c,q21d,q23]<;>rfl)
     ·obtain⟨x24,hx24,hh⟩:=ae hh
      obtain⟨q25a,q25b,q25c,q25d⟩:=eo (eI .i64) hx24
      simp only[bY]at q25b
      obtain⟨x26,hx26,hh⟩:=ae hh
      have q27:=pz hx26
      cases hh
      try simp only[dF,seval,-Int.reduceToNat,Zb,q18,q25a,q25b,q25c,q25d,q27]
      refine jg ?_
      refine⟨v2b,e+1+1+1,?_,?_,?_,?_,?_,?_⟩
      all_goals first|rfl|(simp only[dF,seval,-Int.reduceToNat,Zb,q18,q25a,q25b,q25c,q25d,q27]<;>rfl)
    ·cases hh
     try simp only[dF,seval,-Int.reduceToNat,Zb]
     refine kl ?_
     refine⟨rfl,⟨v2b,v4b,?_,?_,?_,?_,?_⟩⟩
     all_goals first|rfl|(simp only[dF,seval,-Int.reduceToNat,Zb]<;>rfl)
   ·rintro x t H e hx
    obtain⟨l4bx,rfl⟩:∃z,z=o15:=⟨_,rfl⟩
    dsimp only at hx hh
    obtain⟨rfl,⟨v2bx,v4bx,Zbx⟩⟩:=hx
    obtain⟨r28,hr28,hh⟩:=ae hh
    cases hh
    try simp only[dF,seval,-Int.reduceToNat,Zbx,hr28]
  ·clear hh
   have hh:=ho2
   try simp only[dF,seval,-Int.reduceToNat]
   refine sp aj hh (fun _ hh =>?_) (fun _ hh =>?_)
   ·cases hh
    try simp only[dF,seval,-Int.reduceToNat]
    rw[al]
    refine⟨_,rfl,?_⟩
    refine⟨0,?_,?_,?_,?_⟩
    all_goals first|rfl|(simp only[dF,seval,-Int.reduceToNat]<;>rfl)
   ·cases hh
    try simp only[dF,seval,-Int.reduceToNat]
    rw[al]
    refine⟨_,rfl,?_⟩
    refine⟨0,?_,?_,?_,?_⟩
    all_goals first|rfl|(simp only[dF,seval,-Int.reduceToNat]<;>rfl)
theorem N0:bI Tryz.prog 103 zm:=bI.of (mode := .clean) tok NF mixed Tryz.func103 (by kernel_rfl) ⟨by kernel_rfl,by kernel_rfl⟩ (fun _=>Nat.le_of_ble_eq_true (by kernel_rfl)) (fun x r h=>Qa x r h)
noncomputable def jo:=ez (dJ (dU gN)) (fun x:ay=>fG x) (fun r:Bool =>.clean (.bool r))
theorem fT (p0_0:Int) (p0_1:(List Int)):jo none [.agg [.int .i64 p0_0,.sl false false p0_1.length (ab (eI .i64) p0_1)]]=(fG (ay.mk p0_0 p0_1)).map fun r:Bool=>(.clean (.bool r),none):=aE _ _ _ ((ay.mk p0_0 p0_1))
theorem Iz (p0:ay) (r:Bool) (hh:fG p0=some r):aQ .clean tab aT FU Tryz.f111 none [.agg [.int .i64 p0.ah,.sl false false p0.aa.length (ab (eI .i64) p0.aa)]]=some (.clean (.bool r),none):=by
 refine aw rfl Tryz.ntmps111 Tryz.results111 ?_
 unfold fG at hh
 try simp only[w,seval,-Int.reduceToNat]
 obtain⟨o5,ho5,hh⟩:=ae hh
 refine ax (fun s t H e=>match s with|s3a=>∃v1a:Nat,t 1=.ptr 1 v1a 0∧t 3=.int .i64 s3a∧H 1=some ⟨v1a,49,[.int .i64 p0.ah,.sl false false p0.aa.length (ab (eI .i64) p0.aa)],false,false,false⟩) (fun o x t H e=>match o with|(.inl _)=>x=.exit 0∧∃v1ax:Nat,t 1=.ptr 1 v1ax 0∧H 1=some ⟨v1ax,49,[.int .i64 p0.ah,.sl false false p0.aa.length (ab (eI .i64) p0.aa)],false,false,false⟩|(.inr r)=>x=.ret∧fw .clean tab none [.tmp 2] ⟨t,H,e⟩=some (.clean (.bool r),none)) ho5 ?_ ?_ ?_
 ·refine⟨0,?_,?_,?_⟩
  all_goals first|rfl|(simp only[w,seval,-Int.reduceToNat]<;>rfl)
 ·rintro s3a t H e ⟨v1a,Za⟩ c hh
  simp only[vT]at hh
  try simp only[w,seval,-Int.reduceToNat,Za]
  refine sp aj hh (fun _ hh =>?_) (fun _ hh =>?_)
  ·obtain⟨x7,hx7,hh⟩:=ae hh
   have ax7:=bT (eI .i64) hx7
   simp only[bY]at ax7
   try simp only[w,seval,-Int.reduceToNat,Za,ax7]
   refine sp aP hh (fun _ hh =>?_) (fun _ hh =>?_)
   ·cases hh
    try simp only[w,seval,-Int.reduceToNat,Za,ax7]
    refine wq ⟨rfl,?_⟩
    try simp only[w,seval,-Int.reduceToNat,Za,ax7]
   ·have ax7:=bT (eI .i64) hx7
    simp only[bY]at ax7
    try simp only[w,seval,-Int.reduceToNat,Za,ax7,ax7]
    refine sp aj hh (fun _ hh =>?_) (fun _ hh =>?_)
    ·cases hh
     try simp only[w,seval,-Int.reduceToNat,Za,ax7,ax7]
     refine wq ⟨rfl,?_⟩
     try simp only[w,seval,-Int.reduceToNat,Za,ax7,ax7]
    ·cases hh
     try simp only[w,seval,-Int.reduceToNat,Za,ax7,ax7]
     refine jg ?_
     refine⟨v1a,?_,?_,?_⟩
     all_goals first|rfl|(simp only[w,seval,-Int.reduceToNat,Za,ax7,ax7]<;>rfl)
  ·cases hh
   try simp only[w,seval,-Int.reduceToNat,Za]
   refine kl ?_
   refine⟨rfl,⟨v1a,?_,?_⟩⟩
   all_goals first|rfl|(simp only[w,seval,-Int.reduceToNat,Za]<;>rfl)
 ·rintro x t H e hx
  rcases o5 with _|ra
  ·dsimp only at hx hh
   obtain⟨rfl,⟨v1ax,Zax⟩⟩:=hx
   try simp only[w,seval,-Int.reduceToNat,Zax]
   obtain⟨o10,ho10,hh⟩:=ae hh
   refine bG 0 (fun s t H e=>match s with|s44j2=>∃v1j2:Nat,t 1=.ptr 1 v1j2 0∧t 4=.int .i64 (p0.aa.length:Int)∧t 44=.bool s44j2∧H 1=some ⟨v1j2,49,[.int .i64 p0.ah,.sl false false p0.aa.length (ab (eI .i64) p0.aa)],false,false,false⟩) (fun s=>s=o10) ?_ ?_
   ·rintro s44j2 t H e ⟨v1j2,Zj2⟩ rfl
    try dsimp only at hh
    try simp only[w,seval,-Int.reduceToNat,Zj2]
    refine sp aj hh (fun _ hh =>?_) (fun _ hh =>?_)
    ·cases hh
     try simp only[w,seval,-Int.reduceToNat,Zj2]
    ·try simp only[w,seval,-Int.reduceToNat,Zj2]
     refine sp aP hh (fun _ hh =>?_) (fun _ hh =>?_)
     ·cases hh
      try simp only[w,seval,-Int.reduceToNat,Zj2]
     ·obtain⟨x13,hx13,hh⟩:=ae hh
      have ax13:=bT (eI .i64) hx13
      simp only[bY]at ax13
      cases hh
      try simp only[w,seval,-Int.reduceToNat,Zj2,ax13]
   ·clear hh
    have hh:=ho10
    try simp only[w,seval,-Int.reduceToNat,Zax]
    refine sp aP hh (fun _ hh =>?_) (fun _ hh =>?_)
    ·cases hh
     try simp only[w,seval,-Int.reduceToNat,Zax]
     rw[al]
     refine⟨_,rfl,?_⟩
     refine⟨v1ax,?_,?_,?_,?_⟩
     all_goals first|rfl|(simp only[w,seval,-Int.reduceToNat,Zax]<;>rfl)
    ·try simp only[w,seval,-Int.reduceToNat,Zax]
     refine sp aP hh (fun _ hh =>?_) (fun _ hh =>?_)
     ·cases hh
      try simp only[w,seval,-Int.reduceToNat,Zax]
      rw[al]
      refine⟨_,rfl,?_⟩
      refine⟨v1ax,?_,?_,?_,?_⟩
      all_goals first|rfl|(simp only[w,seval,-Int.reduceToNat,Zax]<;>rfl)
     ·cases hh
      try simp only[w,seval,-Int.reduceToNat,Zax]
      rw[al]
      refine⟨_,rfl,?_⟩
      refine⟨v1ax,?_,?_,?_,?_⟩
      all_goals first|rfl|(simp only[w,seval,-Int.reduceToNat,Zax]<;>rfl)
  ·dsimp only at hx hh
   obtain⟨rfl,hE⟩:=hx
   cases hh
   try simp only[aZ,aR,bc,cu,cr]
   exact hE
theorem mq:bI Tryz.prog 111 jo:=bI.of (mode := .clean) tok bM.none mixed Tryz.func111 (by kernel_rfl) ⟨by kernel_rfl,by kernel_rfl⟩ (fun _=>Nat.le_of_ble_eq_true (by kernel_rfl)) (fun x r h=>Iz x r h)
noncomputable def wE:=ez (dJ (dU gN)) (fun x:ay=>sP x) (fun r:ay =>.clean (.agg [.int .i64 r.ah,.sl false false r.aa.length (ab (eI .i64) r.aa)]))
theorem Ey (p0_0:Int) (p0_1:(List Int)):wE none [.agg [.int .i64 p0_0,.sl false false p0_1.length (ab (eI .i64) p0_1)]]=(sP (ay.mk p0_0 p0_1)).map fun r:ay=>(.clean (.agg [.int .i64 r.ah,.sl false false r.aa.length (ab (eI .i64) r.aa)]),none):=aE _ _ _ ((ay.mk p0_0 p0_1))
noncomputable def sG:Env:=(Am.ext (Am.ext aT 111 false jo) 133 false ku)
theorem Kr:bM Tryz.prog sG:=((bM.none.add mq false).add nT false)
theorem xt:type_of% (ai @w<|ai @fT<|ai @ia<|@sG.eq_1):=⟨@w,@fT,@ia,@sG.eq_1⟩
theorem NQ (p0:ay) (r:ay) (hh:sP p0=some r):aQ .clean tab sG FU Tryz.f131 none [.agg [.int .i64 p0.ah,.sl false false p0.aa.length (ab (eI .i64) p0.aa)]]=some (.clean (.agg [.int .i64 r.ah,.sl false false r.aa.length (ab (eI .i64) r.aa)]),none):=by
 refine aw rfl Tryz.ntmps131 Tryz.results131 ?_
 unfold sP at hh
 obtain⟨r1,hr1,hh⟩:=ae hh
 try simp only[xt,seval,-Int.reduceToNat,hr1]
 refine sp aj hh (fun _ hh =>?_) (fun _ hh =>?_)
 ·cases hh
  try simp only[xt,seval,-Int.reduceToNat,hr1]
 ·obtain⟨r3,hr3,hh⟩:=ae hh
  cases hh
  try simp only[xt,seval,-Int.reduceToNat,hr1,hr3]
theorem KV:bI Tryz.prog 131 wE:=bI.of (mode := .clean) tok Kr mixed Tryz.func131 (by kernel_rfl) ⟨by kernel_rfl,by kernel_rfl⟩ (fun _=>Nat.le_of_ble_eq_true (by kernel_rfl)) (fun x r h=>NQ x r h)
noncomputable def jq:=ez (dX (gg (eI .i64)) (dJ (aI .i64))) (fun x:(List Int)×Int=>gG x.1 x.2) (fun r:Int =>.clean (.int .i64 r))
theorem fU (p0:(List Int)) (p1:Int):jq none [.sl false false p0.length (ab (eI .i64) p0),.int .i64 p1]=(gG p0 p1).map fun r:Int=>(.clean (.int .i64 r),none):=aE _ _ _ (p0,p1)
theorem IA (p0:(List Int)) (p1:Int) (r:Int) (hh:gG p0 p1=some r):aQ .clean tab aT FU Tryz.f175 none [.sl false false p0.length (ab (eI .i64) p0),.int .i64 p1]=some (.clean (.int .i64 r),none):=by
 refine aw rfl Tryz.ntmps175 Tryz.results175 ?_
 unfold gG at hh
 try simp only[w,seval,-Int.reduceToNat]
 refine sp aj hh (fun _ hh =>?_) (fun _ hh =>?_)
 ·obtain⟨x2,hx2,hh⟩:=ae hh
  have ax2:=bT (eI .i64) hx2
  simp only[bY]at ax2
  cases hh
  try simp only[w,seval,-Int.reduceToNat,ax2]
 ·cases hh
  try simp only[w,seval,-Int.reduceToNat]
theorem mr:bI Tryz.prog 175 jq:=bI.of (mode := .clean) tok bM.none mixed Tryz.func175 (by kernel_rfl) ⟨by kernel_rfl,by kernel_rfl⟩ (fun _=>Nat.le_of_ble_eq_true (by kernel_rfl)) (fun x r h=>IA x.1 x.2 r h)
noncomputable def qQ:=ez (dX (gg (eI .i64)) (dJ (gg (eI .i64)))) (fun x:(List Int)×(List Int)=>mF x.1 x.2) (fun r:(List Int) =>.clean (.sl false false r.length (ab (eI .i64) r)))
theorem sa (p0:(List Int)) (p1:(List Int)):qQ none [.sl false false p0.length (ab (eI .i64) p0),.sl false false p1.length (ab (eI .i64) p1)]=(mF p0 p1).map fun r:(List Int)=>(.clean (.sl false false r.length (ab (eI .i64) r)),none):=aE _ _ _ (p0,p1)
noncomputable def nN:Env:=(Am.ext (Am.ext aT 169 false jd) 175 false jq)
theorem Fz:bM Tryz.prog nN:=((bM.none.add lC false).add mr false)
theorem bJ:type_of% (ai @w<|ai @eS<|ai @fU<|@nN.eq_1):=⟨@w,@eS,@fU,@nN.eq_1⟩
theorem IC (p0:(List Int)) (p1:(List Int)) (r:(List Int)) (hh:mF p0 p1=some r):aQ .clean tab nN FU Tryz.f154 none [.sl false false p0.length (ab (eI .i64) p0),.sl false false p1.length (ab (eI .i64) p1)]=some (.clean (.sl false false r.length (ab (eI .i64) r)),none):=by
 refine aw rfl Tryz.ntmps154 Tryz.results154 ?_
 unfold mF at hh
 obtain⟨x1,hx1,hh⟩:=ae hh
 obtain⟨q2a,q2b,q2c,q2d,q2e⟩:=mk_one (eI .i64) hx1
 simp only[bY]at q2d
 try simp only[bJ,seval,-Int.reduceToNat,q2a,q2b,q2c,q2d,q2e]
 obtain⟨o27,ho27,hh⟩:=ae hh
 refine ax (fun s t H e=>match s with|(s6a,l5a)=>∃v5a:Nat,t 0=.sl false false p0.length (ab (eI .i64) p0)∧t 1=.sl false false p1.length (ab (eI .i64) p1)∧t 5=.buf 5 v5a 1 0 (l5a).length∧t 6=.int .i64 s6a∧H 5=some ⟨v5a,3,ab (eI .i64) l5a,false,true,false⟩) (fun o x t H e=>match o with|l5ax=>x=.exit 0∧∃v5ax:Nat,t 5=.buf 5 v5ax 1 0 (l5ax).length∧H 5=some ⟨v5ax,3,ab (eI .i64) l5ax,false,true,false⟩) ho27 ?_ ?_ ?_
 ·refine⟨1,?_,?_,?_,?_,?_⟩
  all_goals first|rfl|(simp only[bJ,seval,-Int.reduceToNat,q2a,q2b,q2c,q2d,q2e]<;>rfl)
 ·rintro⟨s6a,l5a⟩ t H e ⟨v5a,Za⟩ c hh
  simp only[vV]at hh
  try simp only[bJ,seval,-Int.reduceToNat,q2a,q2b,q2c,q2d,q2e,Za]
  refine sp aj hh (fun _ hh =>?_) (fun _ hh =>?_)
  ·try simp only[bJ,seval,-Int.reduceToNat,q2a,q2b,q2c,q2d,q2e,Za]
   obtain⟨o40,ho40,hh⟩:=ae hh
   refine ax (fun s t H e=>match s with|(s7e,s8e,l5e)=>∃v5e:Nat,t 0=.sl false false p0.length (ab (eI .i64) p0)∧t 1=.sl false false p1.length (ab (eI .i64) p1)∧t 5=.buf 5 v5e 1 0 (l5e).length∧t 6=.int .i64 s6a∧t 7=.int .i64 s7e∧t 8=.int .i64 s8e∧H 5=some ⟨v5e,3,ab (eI .i64) l5e,false,true,false⟩) (fun o x t H e=>match o with|l5ex=>x=.exit 2∧∃v5ex:Nat,t 0=.sl false false p0.length (ab (eI .i64) p0)∧t 1=.sl false false p1.length (ab (eI .i64) p1)∧t 5=.buf 5 v5ex 1 0 (l5ex).length∧t 6=.int .i64 s6a∧H 5=some ⟨v5ex,3,ab (eI .i64) l5ex,false,true,false⟩) ho40 ?_ ?_ ?_
   ·refine⟨v5a,?_,?_,?_,?_,?_,?_,?_⟩
    all_goals first|rfl|(simp only[bJ,seval,-Int.reduceToNat,q2a,q2b,q2c,q2d,q2e,Za]<;>rfl)
   ·rintro⟨s7e,s8e,l5e⟩ t H e ⟨v5e,Ze⟩ c hh
    simp only[vW]at hh
    try simp only[bJ,seval,-Int.reduceToNat,q2a,q2b,q2c,q2d,q2e,Ze]
    obtain⟨o41,ho41,hh⟩:=ae hh
    refine bG 0 (fun s t H e=>match s with|s29j7=>∃v5j7:Nat,t 0=.sl false false p0.length (ab (eI .i64) p0)∧t 1=.sl false false p1.length (ab (eI .i64) p1)∧t 5=.buf 5 v5j7 1 0 (l5e).length∧t 6=.int .i64 s6a∧t 7=.int .i64 s7e∧t 8=.int .i64 s8e∧t 29=.bool s29j7∧H 5=some ⟨v5j7,3,ab (eI .i64) l5e,false,true,false⟩) (fun s=>s=o41) ?_ ?_
    ·rintro s29j7 t H e ⟨v5j7,Zj7⟩ rfl
     try dsimp only at hh
     try simp only[bJ,seval,-Int.reduceToNat,q2a,q2b,q2c,q2d,q2e,Zj7]
     refine sp aj hh (fun _ hh =>?_) (fun _ hh =>?_)
     ·obtain⟨x43,hx43,hh⟩:=ae hh
      have ax43:=bT (eI .i64) hx43
      simp only[bY]at ax43
      obtain⟨x44,hx44,hh⟩:=ae hh
      have ax44:=bT (eI .i64) hx44
      simp only[bY]at ax44
      obtain⟨r45,hr45,hh⟩:=ae hh
      try simp only[bJ,seval,-Int.reduceToNat,q2a,q2b,q2c,q2d,q2e,Zj7,ax43,ax44,hr45]
      refine b6 (by kernel_rfl) ?_
      obtain⟨x46,hx46,hh⟩:=ae hh
      have q47:=pM hx46
      have ax43:=bT (eI .i64) hx43
      simp only[bY]at ax43
      have p48:=nV (eI .i64) (x':=x46) (fo:=0) (cs:=[.int .i64 x46]) hx43 rfl (Nat.le_of_ble_eq_true rfl)
      simp only[bY,Nat.add_zero]at p48
      have up48:=p48
      simp only[putCells,List.length_cons,List.length_nil,Nat.zero_add,Nat.reduceAdd]at up48
      obtain⟨x49,hx49,hh⟩:=ae hh
      have q50:=pz hx49
      cases hh
      try simp only[bJ,seval,-Int.reduceToNat,q2a,q2b,q2c,q2d,q2e,Zj7,ax43,ax44,hr45,q47,ax43,p48,up48,q50]
      refine jg ?_
      refine⟨v5j7,?_,?_,?_,?_,?_,?_,?_⟩
      all_goals first|rfl|(simp only[bJ,seval,-Int.reduceToNat,q2a,q2b,q2c,q2d,q2e,Zj7,ax43,ax44,hr45,q47,ax43,p48,up48,q50]<;>rfl)
     ·cases hh
      try simp only[bJ,seval,-Int.reduceToNat,q2a,q2b,q2c,q2d,q2e,Zj7]
      refine kl ?_
      refine⟨rfl,⟨v5j7,?_,?_,?_,?_,?_⟩⟩
      all_goals first|rfl|(simp only[bJ,seval,-Int.reduceToNat,q2a,q2b,q2c,q2d,q2e,Zj7]<;>rfl)
    ·clear hh
     have hh:=ho41
     try simp only[bJ,seval,-Int.reduceToNat,q2a,q2b,q2c,q2d,q2e,Ze]
     refine sp aP hh (fun _ hh =>?_) (fun _ hh =>?_)
     ·cases hh
      try simp only[bJ,seval,-Int.reduceToNat,q2a,q2b,q2c,q2d,q2e,Ze]
      rw[al]
      refine⟨_,rfl,?_⟩
      refine⟨v5e,?_,?_,?_,?_,?_,?_,?_,?_⟩
      all_goals first|rfl|(simp only[bJ,seval,-Int.reduceToNat,q2a,q2b,q2c,q2d,q2e,Ze]<;>rfl)
     ·cases hh
      try simp only[bJ,seval,-Int.reduceToNat,q2a,q2b,q2c,q2d,q2e,Ze]
      rw[al]
      refine⟨_,rfl,?_⟩
      refine⟨v5e,?_,?_,?_,?_,?_,?_,?_,?_⟩
      all_goals first|rfl|(simp only[bJ,seval,-Int.reduceToNat,q2a,q2b,q2c,q2d,q2e,Ze]<;>rfl)
   ·rintro x t H e hx
    obtain⟨l5ex,rfl⟩:∃z,z=o40:=⟨_,rfl⟩
    dsimp only at hx hh
    obtain⟨rfl,⟨v5ex,Zex⟩⟩:=hx
    cases hh
    try simp only[bJ,seval,-Int.reduceToNat,q2a,q2b,q2c,q2d,q2e,Zex]
    refine jg ?_
    refine⟨v5ex,?_,?_,?_,?_,?_⟩
    all_goals first|rfl|(simp only[bJ,seval,-Int.reduceToNat,q2a,q2b,q2c,q2d,q2e,Zex]<;>rfl)
  ·cases hh
   try simp only[bJ,seval,-Int.reduceToNat,q2a,q2b,q2c,q2d,q2e,Za]
   refine kl ?_
   refine⟨rfl,⟨v5a,?_,?_⟩⟩
   all_goals first|rfl|(simp only[bJ,seval,-Int.reduceToNat,q2a,q2b,q2c,q2d,q2e,Za]<;>rfl)
 ·rintro x t H e hx
  obtain⟨l5ax,rfl⟩:∃z,z=o27:=⟨_,rfl⟩
  dsimp only at hx hh
  obtain⟨rfl,⟨v5ax,Zax⟩⟩:=hx
  obtain⟨r52,hr52,hh⟩:=ae hh
  cases hh
  try simp only[bJ,seval,-Int.reduceToNat,q2a,q2b,q2c,q2d,q2e,Zax,hr52]
theorem F4:bI Tryz.prog 154 qQ:=bI.of (mode := .clean) tok Fz mixed Tryz.func154 (by kernel_rfl) ⟨by kernel_rfl,by kernel_rfl⟩ (fun _=>Nat.le_of_ble_eq_true (by kernel_rfl)) (fun x r h=>IC x.1 x.2 r h)
noncomputable def ue:=ez (dX (gg (eI .i64)) (dJ (gg (eI .i64)))) (fun x:(List Int)×(List Int)=>sc x.1 x.2) (fun r:Bool =>.clean (.bool r))
theorem Bv (p0:(List Int)) (p1:(List Int)):ue none [.sl false false p0.length (ab (eI .i64) p0),.sl false false p1.length (ab (eI .i64) p1)]=(sc p0 p1).map fun r:Bool=>(.clean (.bool r),none):=aE _ _ _ (p0,p1)
noncomputable def pE:Env:=(Am.ext aT 175 false jq)
theorem HQ:bM Tryz.prog pE:=(bM.none.add mr false)
theorem fu:type_of% (ai @w<|ai @fU<|@pE.eq_1):=⟨@w,@fU,@pE.eq_1⟩
theorem KG (p0:(List Int)) (p1:(List Int)) (r:Bool) (hh:sc p0 p1=some r):aQ .clean tab pE FU Tryz.f153 none [.sl false false p0.length (ab (eI .i64) p0),.sl false false p1.length (ab (eI .i64) p1)]=some (.clean (.bool r),none):=by
 refine aw rfl Tryz.ntmps153 Tryz.results153 ?_
 unfold sc at hh
 try simp only[fu,seval,-Int.reduceToNat]
 obtain⟨o5,ho5,hh⟩:=ae hh
 refine ax (fun s t H e=>match s with|s5a=>t 0=.sl false false p0.length (ab (eI .i64) p0)∧t 1=.sl false false p1.length (ab (eI .i64) p1)∧t 5=.int .i64 s5a) (fun o x t H e=>match o with|(.inl _)=>x=.exit 0|(.inr r)=>x=.ret∧fw .clean tab none [.tmp 4] ⟨t,H,e⟩=some (.clean (.bool r),none)) ho5 ?_ ?_ ?_
 ·refine⟨?_,?_,?_⟩
  all_goals first|rfl|(simp only[fu,seval,-Int.reduceToNat]<;>rfl)
 ·rintro s5a t H e Za c hh
  simp only[yl]at hh
  try simp only[fu,seval,-Int.reduceToNat,Za]
  refine sp aj hh (fun _ hh =>?_) (fun _ hh =>?_)
  ·obtain⟨r7,hr7,hh⟩:=ae hh
   obtain⟨r8,hr8,hh⟩:=ae hh
   try simp only[fu,seval,-Int.reduceToNat,Za,hr7,hr8]
   refine sp aj hh (fun _ hh =>?_) (fun _ hh =>?_)
   ·cases hh
    try simp only[fu,seval,-Int.reduceToNat,Za,hr7,hr8]
    refine wq ⟨rfl,?_⟩
    try simp only[fu,seval,-Int.reduceToNat,Za,hr7,hr8]
   ·cases hh
    try simp only[fu,seval,-Int.reduceToNat,Za,hr7,hr8]
    refine jg ?_
    refine⟨?_,?_,?_⟩
    all_goals first|rfl|(simp only[fu,seval,-Int.reduceToNat,Za,hr7,hr8]<;>rfl)
  ·cases hh
   try simp only[fu,seval,-Int.reduceToNat,Za]
   refine kl ?_
   exact rfl
 ·rintro x t H e hx
  rcases o5 with _|ra
  ·dsimp only at hx hh
   subst hx
   cases hh
   try simp only[fu,seval,-Int.reduceToNat]
  ·dsimp only at hx hh
   obtain⟨rfl,hE⟩:=hx
   cases hh
   try simp only[aZ,aR,bc,cu,cr]
   exact hE
theorem I7:bI Tryz.prog 153 ue:=bI.of (mode := .clean) tok HQ mixed Tryz.func153 (by kernel_rfl) ⟨by kernel_rfl,by kernel_rfl⟩ (fun _=>Nat.le_of_ble_eq_true (by kernel_rfl)) (fun x r h=>KG x.1 x.2 r h)
noncomputable def nF:=ez (dX (gg (eI .i64)) (dJ (gg (eI .i64)))) (fun x:(List Int)×(List Int)=>mE x.1 x.2) (fun r:(List Int) =>.clean (.sl false false r.length (ab (eI .i64) r)))
theorem nZ (p0:(List Int)) (p1:(List Int)):nF none [.sl false false p0.length (ab (eI .i64) p0),.sl false false p1.length (ab (eI .i64) p1)]=(mE p0 p1).map fun r:(List Int)=>(.clean (.sl false false r.length (ab (eI .i64) r)),none):=aE _ _ _ (p0,p1)
noncomputable def nM:Env:=(Am.ext (Am.ext aT 169 false jd) 175 false jq)
theorem Fy:bM Tryz.prog nM:=((bM.none.add lC false).add mr false)
theorem dK:type_of% (ai @w<|ai @eS<|ai @fU<|@nM.eq_1):=⟨@w,@eS,@fU,@nM.eq_1⟩
theorem IB (p0:(List Int)) (p1:(List Int)) (r:(List Int)) (hh:mE p0 p1=some r):aQ .clean tab nM FU Tryz.f168 none [.sl false false p0.length (ab (eI .i64) p0),.sl false false p1.length (ab (eI .i64) p1)]=some (.clean (.sl false false r.length (ab (eI .i64) r)),none):=by
 refine aw rfl Tryz.ntmps168 Tryz.results168 ?_
 unfold mE at hh
 try simp only[dK,seval,-Int.reduceToNat]
 obtain⟨o9,ho9,hh⟩:=ae hh
 refine ax (fun s t H e=>match s with|(s6a,s7a,l5a)=>∃v5a:Nat,t 0=.sl false false p0.length (ab (eI .i64) p0)∧t 1=.sl false false p1.length (ab (eI .i64) p1)∧t 5=.buf 5 v5a 1 0 (l5a).length∧t 6=.int .i64 s6a∧t 7=.int .i64 s7a∧H 5=some ⟨v5a,3,ab (eI .i64) l5a,false,true,false⟩) (fun o x t H e=>match o with|l5ax=>x=.exit 0∧∃v5ax:Nat,t 5=.buf 5 v5ax 1 0 (l5ax).length∧H 5=some ⟨v5ax,3,ab (eI .i64) l5ax,false,true,false⟩) ho9 ?_ ?_ ?_
 ·refine⟨1,?_,?_,?_,?_,?_,?_⟩
  all_goals first|rfl|(simp only[dK,seval,-Int.reduceToNat]<;>rfl)
 ·rintro⟨s6a,s7a,l5a⟩ t H e ⟨v5a,Za⟩ c hh
  simp only[vU]at hh
  try simp only[dK,seval,-Int.reduceToNat,Za]
  refine sp aj hh (fun _ hh =>?_) (fun _ hh =>?_)
  ·obtain⟨x11,hx11,hh⟩:=ae hh
   have ax11:=bT (eI .i64) hx11
   simp only[bY]at ax11
   obtain⟨r12,hr12,hh⟩:=ae hh
   try simp only[dK,seval,-Int.reduceToNat,Za,ax11,hr12]
   refine b6 (by kernel_rfl) ?_
   try simp only[dK,seval,-Int.reduceToNat,Za,ax11,hr12]
   refine sp aj hh (fun _ hh =>?_) (fun _ hh =>?_)
   ·obtain⟨x14,hx14,hh⟩:=ae hh
    obtain⟨q15a,q15b,q15c,q15d⟩:=eo (eI .i64) hx14
    simp only[bY]at q15b
    cases hh
    try simp only[dK,seval,-Int.reduceToNat,Za,ax11,hr12,q15a,q15b,q15c,q15d]
    refine jg ?_
    refine⟨e+1+1+1+1+1+1,?_,?_,?_,?_,?_,?_⟩
    all_goals first|rfl|(simp only[dK,seval,-Int.reduceToNat,Za,ax11,hr12,q15a,q15b,q15c,q15d]<;>rfl)
   ·obtain⟨x16,hx16,hh⟩:=ae hh
    obtain⟨q17a,q17b,q17c,q17d⟩:=eo (eI .i64) hx16
    simp only[bY]at q17b
    cases hh
    try simp only[dK,seval,-Int.reduceToNat,Za,ax11,hr12,q17a,q17b,q17c,q17d]
    refine jg ?_
    refine⟨e+1+1+1+1,?_,?_,?_,?_,?_,?_⟩
    all_goals first|rfl|(simp only[dK,seval,-Int.reduceToNat,Za,ax11,hr12,q17a,q17b,q17c,q17d]<;>rfl)
  ·cases hh
   try simp only[dK,seval,-Int.reduceToNat,Za]
   refine kl ?_
   refine⟨rfl,⟨v5a,?_,?_⟩⟩
   all_goals first|rfl|(simp only[dK,seval,-Int.reduceToNat,Za]<;>rfl)
 ·rintro x t H e hx
  obtain⟨l5ax,rfl⟩:∃z,z=o9:=⟨_,rfl⟩
  dsimp only at hx hh
  obtain⟨rfl,⟨v5ax,Zax⟩⟩:=hx
  obtain⟨r18,hr18,hh⟩:=ae hh
  cases hh
  try simp only[dK,seval,-Int.reduceToNat,Zax,hr18]
theorem vH:bI Tryz.prog 168 nF:=bI.of (mode := .clean) tok Fy mixed Tryz.func168 (by kernel_rfl) ⟨by kernel_rfl,by kernel_rfl⟩ (fun _=>Nat.le_of_ble_eq_true (by kernel_rfl)) (fun x r h=>IB x.1 x.2 r h)
noncomputable def oY:=ez (dX (gg (eI .i64)) (dJ (gg (eI .i64)))) (fun x:(List Int)×(List Int)=>oR x.1 x.2) (fun r:(List Int)×(List Int) =>.clean (.tup [.sl false false r.1.length (ab (eI .i64) r.1),.sl false false r.2.length (ab (eI .i64) r.2)]))
theorem pS (p0:(List Int)) (p1:(List Int)):oY none [.sl false false p0.length (ab (eI .i64) p0),.sl false false p1.length (ab (eI .i64) p1)]=(oR p0 p1).map fun r:(List Int)×(List Int)=>(.clean (.tup [.sl false false r.1.length (ab (eI .i64) r.1),.sl false false r.2.length (ab (eI .i64) r.2)]),none):=aE _ _ _ (p0,p1)
noncomputable def pG:Env:=(Am.keep 7 (Am.ext (Am.ext (Am.ext (Am.ext aT 153 false ue) 154 false qQ) 168 false nF) 169 false jd))
theorem HS:bM Tryz.prog pG:=(bM.keep ((((bM.none.add I7 false).add F4 false).add vH false).add lC false) 7)
theorem cG:type_of% (ai @w<|ai @Bv<|ai @sa<|ai @nZ<|ai @eS<|@pG.eq_1):=⟨@w,@Bv,@sa,@nZ,@eS,@pG.eq_1⟩
theorem KI (p0:(List Int)) (p1:(List Int)) (r:(List Int)×(List Int)) (hh:oR p0 p1=some r):aQ .clean tab pG FU Tryz.f151 none [.sl false false p0.length (ab (eI .i64) p0),.sl false false p1.length (ab (eI .i64) p1)]=some (.clean (.tup [.sl false false r.1.length (ab (eI .i64) r.1),.sl false false r.2.length (ab (eI .i64) r.2)]),none):=by
 refine aw rfl Tryz.ntmps151 Tryz.results151 ?_
 unfold oR at hh
 obtain⟨x1,hx1,hh⟩:=ae hh
 obtain⟨q2a,q2b,q2c,q2d,q2e⟩:=mk_one (eI .i64) hx1
 simp only[bY]at q2d
 try simp only[cG,seval,-Int.reduceToNat,q2a,q2b,q2c,q2d,q2e]
 obtain⟨o29,ho29,hh⟩:=ae hh
 refine ax (fun s t H e=>match s with|(s7a,s8a,l6a)=>∃v6a:Nat,t 0=.sl false false p0.length (ab (eI .i64) p0)∧t 1=.sl false false p1.length (ab (eI .i64) p1)∧t 6=.buf 6 v6a 1 0 (l6a).length∧t 7=.sl false false s7a.length (ab (eI .i64) s7a)∧t 8=.int .i64 s8a∧H 6=some ⟨v6a,3,ab (eI .i64) l6a,false,true,false⟩) (fun o x t H e=>match o with|(s7ax,l6ax)=>x=.exit 0∧∃v6ax:Nat,t 6=.buf 6 v6ax 1 0 (l6ax).length∧t 7=.sl false false s7ax.length (ab (eI .i64) s7ax)∧H 6=some ⟨v6ax,3,ab (eI .i64) l6ax,false,true,false⟩) ho29 ?_ ?_ ?_
 ·refine⟨1,?_,?_,?_,?_,?_,?_⟩
  all_goals first|rfl|(simp only[cG,seval,-Int.reduceToNat,q2a,q2b,q2c,q2d,q2e]<;>rfl)
 ·rintro⟨s7a,s8a,l6a⟩ t H e ⟨v6a,Za⟩ c hh
  simp only[ym]at hh
  try simp only[cG,seval,-Int.reduceToNat,q2a,q2b,q2c,q2d,q2e,Za]
  refine sp aj hh (fun _ hh =>?_) (fun _ hh =>?_)
  ·obtain⟨x31,hx31,hh⟩:=ae hh
   have ax31:=bT (eI .i64) hx31
   simp only[bY]at ax31
   obtain⟨x32,hx32,hh⟩:=ae hh
   obtain⟨q33a,q33b,q33c,q33d⟩:=RZ (eI .i64) hx32
   simp only[aF,bY,List.length_cons,Nat.zero_add,Nat.reduceAdd]at q33a q33b
   obtain⟨r34,hr34,hh⟩:=ae hh
   try simp only[cG,seval,-Int.reduceToNat,q2a,q2b,q2c,q2d,q2e,Za,ax31,q33a,q33b,q33c,q33d,hr34]
   obtain⟨o42,ho42,hh⟩:=ae hh
   refine ax (fun s t H e=>match s with|(s9c,s10c)=>∃v6c:Nat,t 0=.sl false false p0.length (ab (eI .i64) p0)∧t 1=.sl false false p1.length (ab (eI .i64) p1)∧t 6=.buf 6 v6c 1 0 (l6a).length∧t 7=.sl false false r34.length (ab (eI .i64) r34)∧t 8=.int .i64 s8a∧t 9=.int .i64 s9c∧t 10=.int .i64 s10c∧H 6=some ⟨v6c,3,ab (eI .i64) l6a,false,true,false⟩) (fun o x t H e=>match o with|s9cx=>x=.exit 2∧∃v6cx:Nat,t 0=.sl false false p0.length (ab (eI .i64) p0)∧t 1=.sl false false p1.length (ab (eI .i64) p1)∧t 6=.buf 6 v6cx 1 0 (l6a).length∧t 7=.sl false false r34.length (ab (eI .i64) r34)∧t 8=.int .i64 s8a∧t 9=.int .i64 s9cx∧H 6=some ⟨v6cx,3,ab (eI .i64) l6a,false,true,false⟩) ho42 ?_ ?_ ?_
   ·refine⟨v6a,?_,?_,?_,?_,?_,?_,?_,?_⟩
    all_goals first|rfl|(simp only[cG,seval,-Int.reduceToNat,q2a,q2b,q2c,q2d,q2e,Za,ax31,q33a,q33b,q33c,q33d,hr34]<;>rfl)
   ·rintro⟨s9c,s10c⟩ t H e ⟨v6c,Zc⟩ c hh
    simp only[yn]at hh
    try simp only[cG,seval,-Int.reduceToNat,q2a,q2b,q2c,q2d,q2e,ax31,q33a,q33b,q33c,q33d,hr34,Zc]
    refine sp aj hh (fun _ hh =>?_) (fun _ hh =>?_)
    ·obtain⟨x44,hx44,hh⟩:=ae hh
     have q45:=pz hx44
     have i46:=sa p1 ([x44])
     simp only[aF,bY,List.length_cons,List.length_nil,Nat.zero_add,Nat.reduceAdd,List.length_set]at i46
     obtain⟨r47,hr47,hh⟩:=ae hh
     obtain⟨r48,hr48,hh⟩:=ae hh
     try simp only[cG,seval,-Int.reduceToNat,q2a,q2b,q2c,q2d,q2e,ax31,q33a,q33b,q33c,q33d,hr34,Zc,q45,i46,hr47,hr48]
     refine sp aj hh (fun _ hh =>?_) (fun _ hh =>?_)
     ·cases hh
      try simp only[cG,seval,-Int.reduceToNat,q2a,q2b,q2c,q2d,q2e,ax31,q33a,q33b,q33c,q33d,hr34,Zc,q45,i46,hr47,hr48]
      refine jg ?_
      refine⟨v6c,?_,?_,?_,?_,?_,?_,?_,?_⟩
      all_goals first|rfl|(simp only[cG,seval,-Int.reduceToNat,q2a,q2b,q2c,q2d,q2e,ax31,q33a,q33b,q33c,q33d,hr34,Zc,q45,i46,hr47,hr48]<;>rfl)
     ·cases hh
      try simp only[cG,seval,-Int.reduceToNat,q2a,q2b,q2c,q2d,q2e,ax31,q33a,q33b,q33c,q33d,hr34,Zc,q45,i46,hr47,hr48]
      refine jg ?_
      refine⟨v6c,?_,?_,?_,?_,?_,?_,?_,?_⟩
      all_goals first|rfl|(simp only[cG,seval,-Int.reduceToNat,q2a,q2b,q2c,q2d,q2e,ax31,q33a,q33b,q33c,q33d,hr34,Zc,q45,i46,hr47,hr48]<;>rfl)
    ·cases hh
     try simp only[cG,seval,-Int.reduceToNat,q2a,q2b,q2c,q2d,q2e,ax31,q33a,q33b,q33c,q33d,hr34,Zc]
     refine kl ?_
     refine⟨rfl,⟨v6c,?_,?_,?_,?_,?_,?_,?_⟩⟩
     all_goals first|rfl|(simp only[cG,seval,-Int.reduceToNat,q2a,q2b,q2c,q2d,q2e,ax31,q33a,q33b,q33c,q33d,hr34,Zc]<;>rfl)
   ·rintro x t H e hx
    obtain⟨s9cx,rfl⟩:∃z,z=o42:=⟨_,rfl⟩
    dsimp only at hx hh
    obtain⟨rfl,⟨v6cx,Zcx⟩⟩:=hx
    obtain⟨x50,hx50,hh⟩:=ae hh
    have ax50:=bT (eI .i64) hx50
    simp only[bY]at ax50
    have p51:=nV (eI .i64) (x':=s9cx) (fo:=0) (cs:=[.int .i64 s9cx]) hx50 rfl (Nat.le_of_ble_eq_true rfl)
    simp only[bY,Nat.add_zero]at p51
    have up51:=p51
    simp only[putCells,List.length_cons,List.length_nil,Nat.zero_add,Nat.reduceAdd]at up51
    have i52:=eS ([s9cx])
    simp only[aF,bY,List.length_cons,List.length_nil,Nat.zero_add,Nat.reduceAdd,List.length_set]at i52
    obtain⟨r53,hr53,hh⟩:=ae hh
    obtain⟨r54,hr54,hh⟩:=ae hh
    obtain⟨r55,hr55,hh⟩:=ae hh
    cases hh
    try simp only[cG,seval,-Int.reduceToNat,q2a,q2b,q2c,q2d,q2e,ax31,q33a,q33b,q33c,q33d,hr34,Zcx,ax50,p51,up51,i52,hr53,hr54,hr55]
    refine jg ?_
    refine⟨v6cx,?_,?_,?_,?_,?_,?_⟩
    all_goals first|rfl|(simp only[cG,seval,-Int.reduceToNat,q2a,q2b,q2c,q2d,q2e,ax31,q33a,q33b,q33c,q33d,hr34,Zcx,ax50,p51,up51,i52,hr53,hr54,hr55]<;>rfl)
  ·cases hh
   try simp only[cG,seval,-Int.reduceToNat,q2a,q2b,q2c,q2d,q2e,Za]
   refine kl ?_
   refine⟨rfl,⟨v6a,?_,?_,?_⟩⟩
   all_goals first|rfl|(simp only[cG,seval,-Int.reduceToNat,q2a,q2b,q2c,q2d,q2e,Za]<;>rfl)
 ·rintro x t H e hx
  rcases o29 with⟨s7ax,l6ax⟩
  dsimp only at hx hh
  obtain⟨rfl,⟨v6ax,Zax⟩⟩:=hx
  obtain⟨r56,hr56,hh⟩:=ae hh
  cases hh
  try simp only[cG,seval,-Int.reduceToNat,q2a,q2b,q2c,q2d,q2e,Zax,hr56]
theorem xY:bI Tryz.prog 151 oY:=bI.of (mode := .clean) tok HS mixed Tryz.func151 (by kernel_rfl) ⟨by kernel_rfl,by kernel_rfl⟩ (fun _=>Nat.le_of_ble_eq_true (by kernel_rfl)) (fun x r h=>KI x.1 x.2 r h)
noncomputable def wD:=ez (dX (dU gN) (dJ (dU gN))) (fun x:ay×ay=>vS x.1 x.2) (fun r:ay×Int =>.clean (.tup [.agg [.int .i64 r.1.ah,.sl false false r.1.aa.length (ab (eI .i64) r.1.aa)],.int .i64 r.2]))
theorem Ew (p0_0:Int) (p0_1:(List Int)) (p1_0:Int) (p1_1:(List Int)):wD none [.agg [.int .i64 p0_0,.sl false false p0_1.length (ab (eI .i64) p0_1)],.agg [.int .i64 p1_0,.sl false false p1_1.length (ab (eI .i64) p1_1)]]=(vS (ay.mk p0_0 p0_1) (ay.mk p1_0 p1_1)).map fun r:ay×Int=>(.clean (.tup [.agg [.int .i64 r.1.ah,.sl false false r.1.aa.length (ab (eI .i64) r.1.aa)],.int .i64 r.2]),none):=aE _ _ _ ((ay.mk p0_0 p0_1),(ay.mk p1_0 p1_1))
noncomputable def sF:Env:=(Am.ext (Am.ext (Am.ext aT 111 false jo) 133 false ku) 151 false oY)
theorem Kq:bM Tryz.prog sF:=(((bM.none.add mq false).add nT false).add xY false)
theorem dI:type_of% (ai @w<|ai @fT<|ai @ia<|ai @pS<|@sF.eq_1):=⟨@w,@fT,@ia,@pS,@sF.eq_1⟩
theorem NP (p0:ay) (p1:ay) (r:ay×Int) (hh:vS p0 p1=some r):aQ .clean tab sF FU Tryz.f112 none [.agg [.int .i64 p0.ah,.sl false false p0.aa.length (ab (eI .i64) p0.aa)],.agg [.int .i64 p1.ah,.sl false false p1.aa.length (ab (eI .i64) p1.aa)]]=some (.clean (.tup [.agg [.int .i64 r.1.ah,.sl false false r.1.aa.length (ab (eI .i64) r.1.aa)],.int .i64 r.2]),none):=by
 refine aw rfl Tryz.ntmps112 Tryz.results112 ?_
 unfold vS at hh
 obtain⟨r1,hr1,hh⟩:=ae hh
 try simp only[dI,seval,-Int.reduceToNat,hr1]
 obtain⟨o2,ho2,hh⟩:=ae hh
 refine bG 0 (fun s t H e=>match s with|s17j1=>∃v2j1:Nat,∃v3j1:Nat,∃v4j1:Nat,t 2=.ptr 2 v2j1 0∧t 3=.ptr 3 v3j1 0∧t 4=.ptr 4 v4j1 0∧t 17=.bool s17j1∧H 2=some ⟨v2j1,49,[.int .i64 p0.ah,.sl false false p0.aa.length (ab (eI .i64) p0.aa)],false,false,false⟩∧H 3=some ⟨v3j1,49,[.int .i64 p1.ah,.sl false false p1.aa.length (ab (eI .i64) p1.aa)],false,false,false⟩∧H 4=some ⟨v4j1,49,[.int .i64 0,.sl true true 0 []],false,false,false⟩) (fun s=>s=o2) ?_ ?_
 ·rintro s17j1 t H e ⟨v2j1,v3j1,v4j1,Zj1⟩ rfl
  try dsimp only at hh
  try simp only[dI,seval,-Int.reduceToNat,hr1,Zj1]
  refine sp aj hh (fun _ hh =>?_) (fun _ hh =>?_)
  ·cases hh
   try simp only[dI,seval,-Int.reduceToNat,hr1,Zj1]
  ·try simp only[dI,seval,-Int.reduceToNat,hr1,Zj1]
   obtain⟨o6,ho6,hh⟩:=ae hh
   refine ax (fun s t H e=>match s with|(s6b,s7b)=>∃v4b:Nat,t 4=.ptr 4 v4b 0∧t 6=.sl false false s6b.length (ab (eI .i64) s6b)∧t 7=.sl false false s7b.length (ab (eI .i64) s7b)∧H 4=some ⟨v4b,49,[.int .i64 0,.sl true true 0 []],false,false,false⟩) (fun o x t H e=>match o with|s6bx=>x=.exit 0∧∃v4bx:Nat,t 4=.ptr 4 v4bx 0∧t 6=.sl false false s6bx.length (ab (eI .i64) s6bx)∧H 4=some ⟨v4bx,49,[.int .i64 0,.sl true true 0 []],false,false,false⟩) ho6 ?_ ?_ ?_
   ·refine⟨v4j1,?_,?_,?_,?_⟩
    all_goals first|rfl|(simp only[dI,seval,-Int.reduceToNat,hr1,Zj1]<;>rfl)
   ·rintro⟨s6b,s7b⟩ t H e ⟨v4b,Zb⟩ c hh
    simp only[Bz]at hh
    try simp only[dI,seval,-Int.reduceToNat,hr1,Zb]
    refine sp aj hh (fun _ hh =>?_) (fun _ hh =>?_)
    ·obtain⟨r8,hr8,hh⟩:=ae hh
     cases hh
     try simp only[dI,seval,-Int.reduceToNat,hr1,Zb,hr8]
     refine jg ?_
     refine⟨v4b,?_,?_,?_,?_⟩
     all_goals first|rfl|(simp only[dI,seval,-Int.reduceToNat,hr1,Zb,hr8]<;>rfl)
    ·cases hh
     try simp only[dI,seval,-Int.reduceToNat,hr1,Zb]
     refine kl ?_
     refine⟨rfl,⟨v4b,?_,?_,?_⟩⟩
     all_goals first|rfl|(simp only[dI,seval,-Int.reduceToNat,hr1,Zb]<;>rfl)
   ·rintro x t H e hx
    obtain⟨s6bx,rfl⟩:∃z,z=o6:=⟨_,rfl⟩
    dsimp only at hx hh
    obtain⟨rfl,⟨v4bx,Zbx⟩⟩:=hx
    obtain⟨r9,hr9,hh⟩:=ae hh
    cases hh
    try simp only[dI,seval,-Int.reduceToNat,hr1,Zbx,hr9]
 ·clear hh
  have hh:=ho2
  try simp only[dI,seval,-Int.reduceToNat,hr1]
  refine sp aP hh (fun _ hh =>?_) (fun _ hh =>?_)
  ·cases hh
   try simp only[dI,seval,-Int.reduceToNat,hr1]
   rw[al]
   refine⟨_,rfl,?_⟩
   refine⟨0,0,0,?_,?_,?_,?_,?_,?_,?_⟩
   all_goals first|rfl|(simp only[dI,seval,-Int.reduceToNat,hr1]<;>rfl)
  ·obtain⟨r11,hr11,hh⟩:=ae hh
   cases hh
   try simp only[dI,seval,-Int.reduceToNat,hr1,hr11]
   rw[al]
   refine⟨_,rfl,?_⟩
   refine⟨0,0,0,?_,?_,?_,?_,?_,?_,?_⟩
   all_goals first|rfl|(simp only[dI,seval,-Int.reduceToNat,hr1,hr11]<;>rfl)
theorem KU:bI Tryz.prog 112 wD:=bI.of (mode := .clean) tok Kq mixed Tryz.func112 (by kernel_rfl) ⟨by kernel_rfl,by kernel_rfl⟩ (fun _=>Nat.le_of_ble_eq_true (by kernel_rfl)) (fun x r h=>NP x.1 x.2 r h)
noncomputable def uf:=ez (dX (gg (eI .i64)) (dJ (gg (eI .i64)))) (fun x:(List Int)×(List Int)=>sd x.1 x.2) (fun r:(List Int) =>.clean (.sl false false r.length (ab (eI .i64) r)))
theorem uz (p0:(List Int)) (p1:(List Int)):uf none [.sl false false p0.length (ab (eI .i64) p0),.sl false false p1.length (ab (eI .i64) p1)]=(sd p0 p1).map fun r:(List Int)=>(.clean (.sl false false r.length (ab (eI .i64) r)),none):=aE _ _ _ (p0,p1)
noncomputable def pH:Env:=(Am.ext (Am.ext aT 169 false jd) 175 false jq)
theorem HT:bM Tryz.prog pH:=((bM.none.add lC false).add mr false)
theorem cP:type_of% (ai @w<|ai @eS<|ai @fU<|@pH.eq_1):=⟨@w,@eS,@fU,@pH.eq_1⟩
theorem KJ (p0:(List Int)) (p1:(List Int)) (r:(List Int)) (hh:sd p0 p1=some r):aQ .clean tab pH FU Tryz.f167 none [.sl false false p0.length (ab (eI .i64) p0),.sl false false p1.length (ab (eI .i64) p1)]=some (.clean (.sl false false r.length (ab (eI .i64) r)),none):=by
 refine aw rfl Tryz.ntmps167 Tryz.results167 ?_
 unfold sd at hh
 try simp only[cP,seval,-Int.reduceToNat]
 obtain⟨o13,ho13,hh⟩:=ae hh
 refine ax (fun s t H e=>match s with|(s6a,s7a,l5a)=>∃v5a:Nat,t 0=.sl false false p0.length (ab (eI .i64) p0)∧t 1=.sl false false p1.length (ab (eI .i64) p1)∧t 5=.buf 5 v5a 1 0 (l5a).length∧t 6=.int .i64 s6a∧t 7=.int .i64 s7a∧H 5=some ⟨v5a,3,ab (eI .i64) l5a,false,true,false⟩) (fun o x t H e=>match o with|l5ax=>x=.exit 0∧∃v5ax:Nat,t 5=.buf 5 v5ax 1 0 (l5ax).length∧H 5=some ⟨v5ax,3,ab (eI .i64) l5ax,false,true,false⟩) ho13 ?_ ?_ ?_
 ·refine⟨1,?_,?_,?_,?_,?_,?_⟩
  all_goals first|rfl|(simp only[cP,seval,-Int.reduceToNat]<;>rfl)
 ·rintro⟨s6a,s7a,l5a⟩ t H e ⟨v5a,Za⟩ c hh
  simp only[yo]at hh
  try simp only[cP,seval,-Int.reduceToNat,Za]
  obtain⟨o14,ho14,hh⟩:=ae hh
  refine bG 0 (fun s t H e=>match s with|s22j3=>∃v5j3:Nat,t 0=.sl false false p0.length (ab (eI .i64) p0)∧t 1=.sl false false p1.length (ab (eI .i64) p1)∧t 5=.buf 5 v5j3 1 0 (l5a).length∧t 6=.int .i64 s6a∧t 7=.int .i64 s7a∧t 22=.bool s22j3∧H 5=some ⟨v5j3,3,ab (eI .i64) l5a,false,true,false⟩) (fun s=>s=o14) ?_ ?_
  ·rintro s22j3 t H e ⟨v5j3,Zj3⟩ rfl
   try dsimp only at hh
   try simp only[cP,seval,-Int.reduceToNat,Zj3]
   refine sp aj hh (fun _ hh =>?_) (fun _ hh =>?_)
   ·obtain⟨r16,hr16,hh⟩:=ae hh
    obtain⟨r17,hr17,hh⟩:=ae hh
    obtain⟨x18,hx18,hh⟩:=ae hh
    have q19:=pM hx18
    obtain⟨x20,hx20,hh⟩:=ae hh
    obtain⟨q21a,q21b,q21c,q21d⟩:=eo (eI .i64) hx20
    simp only[bY]at q21b
    obtain⟨x22,hx22,hh⟩:=ae hh
    have q23:=pz hx22
    cases hh
    try simp only[cP,seval,-Int.reduceToNat,Zj3,hr16,hr17,q19,q21a,q21b,q21c,q21d,q23]
    refine jg ?_
    refine⟨e+1,?_,?_,?_,?_,?_,?_⟩
    all_goals first|rfl|(simp only[cP,seval,-Int.reduceToNat,Zj3,hr16,hr17,q19,q21a,q21b,q21c,q21d,q23]<;>rfl)
   ·cases hh
    try simp only[cP,seval,-Int.reduceToNat,Zj3]
    refine kl ?_
    refine⟨rfl,⟨v5j3,?_,?_⟩⟩
    all_goals first|rfl|(simp only[cP,seval,-Int.reduceToNat,Zj3]<;>rfl)
  ·clear hh
   have hh:=ho14
   try simp only[cP,seval,-Int.reduceToNat,Za]
   refine sp aP hh (fun _ hh =>?_) (fun _ hh =>?_)
   ·cases hh
    try simp only[cP,seval,-Int.reduceToNat,Za]
    rw[al]
    refine⟨_,rfl,?_⟩
    refine⟨v5a,?_,?_,?_,?_,?_,?_,?_⟩
    all_goals first|rfl|(simp only[cP,seval,-Int.reduceToNat,Za]<;>rfl)
   ·try simp only[cP,seval,-Int.reduceToNat,Za]
    refine sp aP hh (fun _ hh =>?_) (fun _ hh =>?_)
    ·cases hh
     try simp only[cP,seval,-Int.reduceToNat,Za]
     rw[al]
     refine⟨_,rfl,?_⟩
     refine⟨v5a,?_,?_,?_,?_,?_,?_,?_⟩
     all_goals first|rfl|(simp only[cP,seval,-Int.reduceToNat,Za]<;>rfl)
    ·cases hh
     try simp only[cP,seval,-Int.reduceToNat,Za]
     rw[al]
     refine⟨_,rfl,?_⟩
     refine⟨v5a,?_,?_,?_,?_,?_,?_,?_⟩
     all_goals first|rfl|(simp only[cP,seval,-Int.reduceToNat,Za]<;>rfl)
 ·rintro x t H e hx
  obtain⟨l5ax,rfl⟩:∃z,z=o13:=⟨_,rfl⟩
  dsimp only at hx hh
  obtain⟨rfl,⟨v5ax,Zax⟩⟩:=hx
  obtain⟨r26,hr26,hh⟩:=ae hh
  cases hh
  try simp only[cP,seval,-Int.reduceToNat,Zax,hr26]
theorem I8:bI Tryz.prog 167 uf:=bI.of (mode := .clean) tok HT mixed Tryz.func167 (by kernel_rfl) ⟨by kernel_rfl,by kernel_rfl⟩ (fun _=>Nat.le_of_ble_eq_true (by kernel_rfl)) (fun x r h=>KJ x.1 x.2 r h)
noncomputable def wC:=ez (dX (dU gN) (dJ (dU gN))) (fun x:ay×ay=>sO x.1 x.2) (fun r:ay×ay×Int =>.clean (.tup [.agg [.int .i64 r.1.ah,.sl false false r.1.aa.length (ab (eI .i64) r.1.aa)],.agg [.int .i64 r.2.1.ah,.sl false false r.2.1.aa.length (ab (eI .i64) r.2.1.aa)],.int .i64 r.2.2]))
theorem Ev (p0_0:Int) (p0_1:(List Int)) (p1_0:Int) (p1_1:(List Int)):wC none [.agg [.int .i64 p0_0,.sl false false p0_1.length (ab (eI .i64) p0_1)],.agg [.int .i64 p1_0,.sl false false p1_1.length (ab (eI .i64) p1_1)]]=(sO (ay.mk p0_0 p0_1) (ay.mk p1_0 p1_1)).map fun r:ay×ay×Int=>(.clean (.tup [.agg [.int .i64 r.1.ah,.sl false false r.1.aa.length (ab (eI .i64) r.1.aa)],.agg [.int .i64 r.2.1.ah,.sl false false r.2.1.aa.length (ab (eI .i64) r.2.1.aa)],.int .i64 r.2.2]),none):=aE _ _ _ ((ay.mk p0_0 p0_1),(ay.mk p1_0 p1_1))
noncomputable def sE:Env:=(Am.ext (Am.ext (Am.ext (Am.ext (Am.ext aT 111 false jo) 133 false ku) 151 false oY) 167 false uf) 168 false nF)
theorem Kp:bM Tryz.prog sE:=(((((bM.none.add mq false).add nT false).add xY false).add I8 false).add vH false)
theorem cy:type_of% (ai @w<|ai @fT<|ai @ia<|ai @pS<|ai @uz<|ai @nZ<|@sE.eq_1):=⟨@w,@fT,@ia,@pS,@uz,@nZ,@sE.eq_1⟩
theorem NO (p0:ay) (p1:ay) (r:ay×ay×Int) (hh:sO p0 p1=some r):aQ .clean tab sE FU Tryz.f132 none [.agg [.int .i64 p0.ah,.sl false false p0.aa.length (ab (eI .i64) p0.aa)],.agg [.int .i64 p1.ah,.sl false false p1.aa.length (ab (eI .i64) p1.aa)]]=some (.clean (.tup [.agg [.int .i64 r.1.ah,.sl false false r.1.aa.length (ab (eI .i64) r.1.aa)],.agg [.int .i64 r.2.1.ah,.sl false false r.2.1.aa.length (ab (eI .i64) r.2.1.aa)],.int .i64 r.2.2]),none):=by
 refine aw rfl Tryz.ntmps132 Tryz.results132 ?_
 unfold sO at hh
 obtain⟨r1,hr1,hh⟩:=ae hh
 try simp only[cy,seval,-Int.reduceToNat,hr1]
 obtain⟨o2,ho2,hh⟩:=ae hh
 refine bG 0 (fun s t H e=>match s with|s16j1=>∃v2j1:Nat,∃v3j1:Nat,∃v4j1:Nat,∃v5j1:Nat,t 2=.ptr 2 v2j1 0∧t 3=.ptr 3 v3j1 0∧t 4=.ptr 4 v4j1 0∧t 5=.ptr 5 v5j1 0∧t 16=.bool s16j1∧H 2=some ⟨v2j1,49,[.int .i64 p0.ah,.sl false false p0.aa.length (ab (eI .i64) p0.aa)],false,false,false⟩∧H 3=some ⟨v3j1,49,[.int .i64 p1.ah,.sl false false p1.aa.length (ab (eI .i64) p1.aa)],false,false,false⟩∧H 4=some ⟨v4j1,49,[.int .i64 0,.sl true true 0 []],false,false,false⟩∧H 5=some ⟨v5j1,49,[.int .i64 0,.sl true true 0 []],false,false,false⟩) (fun s=>s=o2) ?_ ?_
 ·rintro s16j1 t H e ⟨v2j1,v3j1,v4j1,v5j1,Zj1⟩ rfl
  try dsimp only at hh
  try simp only[cy,seval,-Int.reduceToNat,hr1,Zj1]
  refine sp aj hh (fun _ hh =>?_) (fun _ hh =>?_)
  ·cases hh
   try simp only[cy,seval,-Int.reduceToNat,hr1,Zj1]
  ·try simp only[cy,seval,-Int.reduceToNat,hr1,Zj1]
   refine sp aj hh (fun _ hh =>?_) (fun _ hh =>?_)
   ·cases hh
    try simp only[cy,seval,-Int.reduceToNat,hr1,Zj1]
   ·obtain⟨r5,hr5,hh⟩:=ae hh
    try simp only[cy,seval,-Int.reduceToNat,hr1,Zj1,hr5]
    obtain⟨o6,ho6,hh⟩:=ae hh
    refine bG 0 (fun s t H e=>match s with|s42j2=>∃v2j2:Nat,∃v3j2:Nat,∃v4j2:Nat,∃v5j2:Nat,t 2=.ptr 2 v2j2 0∧t 3=.ptr 3 v3j2 0∧t 4=.ptr 4 v4j2 0∧t 5=.ptr 5 v5j2 0∧t 7=.sl false false r5.1.length (ab (eI .i64) r5.1)∧t 8=.sl false false r5.2.length (ab (eI .i64) r5.2)∧t 42=.bool s42j2∧H 2=some ⟨v2j2,49,[.int .i64 p0.ah,.sl false false p0.aa.length (ab (eI .i64) p0.aa)],false,false,false⟩∧H 3=some ⟨v3j2,49,[.int .i64 p1.ah,.sl false false p1.aa.length (ab (eI .i64) p1.aa)],false,false,false⟩∧H 4=some ⟨v4j2,49,[.int .i64 0,.sl true true 0 []],false,false,false⟩∧H 5=some ⟨v5j2,49,[.int .i64 0,.sl true true 0 []],false,false,false⟩) (fun s=>s=o6) ?_ ?_
    ·rintro s42j2 t H e ⟨v2j2,v3j2,v4j2,v5j2,Zj2⟩ rfl
     try dsimp only at hh
     try simp only[cy,seval,-Int.reduceToNat,hr1,hr5,Zj2]
     refine sp aj hh (fun _ hh =>?_) (fun _ hh =>?_)
     ·obtain⟨r8,hr8,hh⟩:=ae hh
      obtain⟨r9,hr9,hh⟩:=ae hh
      try simp only[cy,seval,-Int.reduceToNat,hr1,hr5,Zj2,hr8,hr9]
      refine b6 (by kernel_rfl) ?_
      cases hh
      try simp only[cy,seval,-Int.reduceToNat,hr1,hr5,Zj2,hr8,hr9]
     ·have i10:=uz r5.1 ([1])
      simp only[aF,bY,List.length_cons,List.length_nil,Nat.zero_add,Nat.reduceAdd,List.length_set]at i10
      obtain⟨r11,hr11,hh⟩:=ae hh
      obtain⟨r12,hr12,hh⟩:=ae hh
      obtain⟨r13,hr13,hh⟩:=ae hh
      obtain⟨r14,hr14,hh⟩:=ae hh
      try simp only[cy,seval,-Int.reduceToNat,hr1,hr5,Zj2,i10,hr11,hr12,hr13,hr14]
      refine b6 (by kernel_rfl) ?_
      cases hh
      try simp only[cy,seval,-Int.reduceToNat,hr1,hr5,Zj2,i10,hr11,hr12,hr13,hr14]
    ·clear hh
     have hh:=ho6
     try simp only[cy,seval,-Int.reduceToNat,hr1,Zj1,hr5]
     refine sp aP hh (fun _ hh =>?_) (fun _ hh =>?_)
     ·cases hh
      try simp only[cy,seval,-Int.reduceToNat,hr1,Zj1,hr5]
      rw[al]
      refine⟨_,rfl,?_⟩
      refine⟨v2j1,v3j1,v4j1,v5j1,?_,?_,?_,?_,?_,?_,?_,?_,?_,?_,?_⟩
      all_goals first|rfl|(simp only[cy,seval,-Int.reduceToNat,hr1,Zj1,hr5]<;>rfl)
     ·cases hh
      try simp only[cy,seval,-Int.reduceToNat,hr1,Zj1,hr5]
      rw[al]
      refine⟨_,rfl,?_⟩
      refine⟨v2j1,v3j1,v4j1,v5j1,?_,?_,?_,?_,?_,?_,?_,?_,?_,?_,?_⟩
      all_goals first|rfl|(simp only[cy,seval,-Int.reduceToNat,hr1,Zj1,hr5]<;>rfl)
 ·clear hh
  have hh:=ho2
  try simp only[cy,seval,-Int.reduceToNat,hr1]
  refine sp aP hh (fun _ hh =>?_) (fun _ hh =>?_)
  ·cases hh
   try simp only[cy,seval,-Int.reduceToNat,hr1]
   rw[al]
   refine⟨_,rfl,?_⟩
   refine⟨0,0,0,0,?_,?_,?_,?_,?_,?_,?_,?_,?_⟩
   all_goals first|rfl|(simp only[cy,seval,-Int.reduceToNat,hr1]<;>rfl)
  ·obtain⟨r17,hr17,hh⟩:=ae hh
   cases hh
   try simp only[cy,seval,-Int.reduceToNat,hr1,hr17]
   rw[al]
   refine⟨_,rfl,?_⟩
   refine⟨0,0,0,0,?_,?_,?_,?_,?_,?_,?_,?_,?_⟩
   all_goals first|rfl|(simp only[cy,seval,-Int.reduceToNat,hr1,hr17]<;>rfl)
theorem KT:bI Tryz.prog 132 wC:=bI.of (mode := .clean) tok Kp mixed Tryz.func132 (by kernel_rfl) ⟨by kernel_rfl,by kernel_rfl⟩ (fun _=>Nat.le_of_ble_eq_true (by kernel_rfl)) (fun x r h=>NO x.1 x.2 r h)
noncomputable def wG:=ez (dX (dU gN) (dJ (dU gN))) (fun x:ay×ay=>vX x.1 x.2) (fun r:ba×Int =>.clean (.tup [.agg [.int .i64 r.1.cH.ah,.sl false false r.1.cH.aa.length (ab (eI .i64) r.1.cH.aa),.int .i64 r.1.cB.ah,.sl false false r.1.cB.aa.length (ab (eI .i64) r.1.cB.aa)],.int .i64 r.2]))
theorem EA (p0_0:Int) (p0_1:(List Int)) (p1_0:Int) (p1_1:(List Int)):wG none [.agg [.int .i64 p0_0,.sl false false p0_1.length (ab (eI .i64) p0_1)],.agg [.int .i64 p1_0,.sl false false p1_1.length (ab (eI .i64) p1_1)]]=(vX (ay.mk p0_0 p0_1) (ay.mk p1_0 p1_1)).map fun r:ba×Int=>(.clean (.tup [.agg [.int .i64 r.1.cH.ah,.sl false false r.1.cH.aa.length (ab (eI .i64) r.1.cH.aa),.int .i64 r.1.cB.ah,.sl false false r.1.cB.aa.length (ab (eI .i64) r.1.cB.aa)],.int .i64 r.2]),none):=aE _ _ _ ((ay.mk p0_0 p0_1),(ay.mk p1_0 p1_1))
noncomputable def sJ:Env:=(Am.ext (Am.ext (Am.ext (Am.ext aT 111 false jo) 112 false wD) 131 false wE) 132 false wC)
theorem Ku:bM Tryz.prog sJ:=((((bM.none.add mq false).add KU false).add KV false).add KT false)
theorem dt:type_of% (ai @w<|ai @fT<|ai @Ew<|ai @Ey<|ai @Ev<|@sJ.eq_1):=⟨@w,@fT,@Ew,@Ey,@Ev,@sJ.eq_1⟩
theorem NS (p0:ay) (p1:ay) (r:ba×Int) (hh:vX p0 p1=some r):aQ .clean tab sJ FU Tryz.f102 none [.agg [.int .i64 p0.ah,.sl false false p0.aa.length (ab (eI .i64) p0.aa)],.agg [.int .i64 p1.ah,.sl false false p1.aa.length (ab (eI .i64) p1.aa)]]=some (.clean (.tup [.agg [.int .i64 r.1.cH.ah,.sl false false r.1.cH.aa.length (ab (eI .i64) r.1.cH.aa),.int .i64 r.1.cB.ah,.sl false false r.1.cB.aa.length (ab (eI .i64) r.1.cB.aa)],.int .i64 r.2]),none):=by
 refine aw rfl Tryz.ntmps102 Tryz.results102 ?_
 unfold vX at hh
 obtain⟨r1,hr1,hh⟩:=ae hh
 try simp only[dt,seval,-Int.reduceToNat,hr1]
 obtain⟨o2,ho2,hh⟩:=ae hh
 refine bG 0 (fun s t H e=>match s with|s21j1=>∃v2j1:Nat,∃v3j1:Nat,∃v4j1:Nat,t 2=.ptr 2 v2j1 0∧t 3=.ptr 3 v3j1 0∧t 4=.ptr 4 v4j1 0∧t 21=.bool s21j1∧H 2=some ⟨v2j1,49,[.int .i64 p0.ah,.sl false false p0.aa.length (ab (eI .i64) p0.aa)],false,false,false⟩∧H 3=some ⟨v3j1,49,[.int .i64 p1.ah,.sl false false p1.aa.length (ab (eI .i64) p1.aa)],false,false,false⟩∧H 4=some ⟨v4j1,51,[.int .i64 0,.sl true true 0 [],.int .i64 0,.sl true true 0 []],false,false,false⟩) (fun s=>s=o2) ?_ ?_
 ·rintro s21j1 t H e ⟨v2j1,v3j1,v4j1,Zj1⟩ rfl
  try dsimp only at hh
  try simp only[dt,seval,-Int.reduceToNat,hr1,Zj1]
  refine sp aj hh (fun _ hh =>?_) (fun _ hh =>?_)
  ·cases hh
   try simp only[dt,seval,-Int.reduceToNat,hr1,Zj1]
  ·try simp only[dt,seval,-Int.reduceToNat,hr1,Zj1]
   refine sp aj hh (fun _ hh =>?_) (fun _ hh =>?_)
   ·cases hh
    try simp only[dt,seval,-Int.reduceToNat,hr1,Zj1]
   ·try simp only[dt,seval,-Int.reduceToNat,hr1,Zj1]
    obtain⟨o5,ho5,hh⟩:=ae hh
    refine lM 0 (fun s t H e=>match s with|(r2_0j2,r2_1j2,r3_0j2,r3_1j2)=>∃v2j2:Nat,∃v3j2:Nat,∃v4j2:Nat,t 2=.ptr 2 v2j2 0∧t 3=.ptr 3 v3j2 0∧t 4=.ptr 4 v4j2 0∧H 2=some ⟨v2j2,49,[.int .i64 r2_0j2,.sl false false r2_1j2.length (ab (eI .i64) r2_1j2)],false,false,false⟩∧H 3=some ⟨v3j2,49,[.int .i64 r3_0j2,.sl false false r3_1j2.length (ab (eI .i64) r3_1j2)],false,false,false⟩∧H 4=some ⟨v4j2,51,[.int .i64 0,.sl true true 0 [],.int .i64 0,.sl true true 0 []],false,false,false⟩) (fun s=>s=o5) ?_ ?_
    ·rintro⟨r2_0j2,r2_1j2,r3_0j2,r3_1j2⟩ t H e ⟨v2j2,v3j2,v4j2,Zj2⟩ rfl
     try dsimp only at hh
     obtain⟨r6,hr6,hh⟩:=ae hh
     obtain⟨r7,hr7,hh⟩:=ae hh
     obtain⟨r8,hr8,hh⟩:=ae hh
     cases hh
     try simp only[dt,seval,-Int.reduceToNat,hr1,Zj2,hr6,hr7,hr8]
    ·clear hh
     have hh:=ho5
     try simp only[dt,seval,-Int.reduceToNat,hr1,Zj1]
     refine sp aj hh (fun _ hh =>?_) (fun _ hh =>?_)
     ·obtain⟨r10,hr10,hh⟩:=ae hh
      obtain⟨r11,hr11,hh⟩:=ae hh
      cases hh
      try simp only[dt,seval,-Int.reduceToNat,hr1,Zj1,hr10,hr11]
      rw[al]
      refine⟨_,rfl,?_⟩
      refine⟨v2j1,v3j1,v4j1,?_,?_,?_,?_,?_,?_⟩
      all_goals first|rfl|(simp only[dt,seval,-Int.reduceToNat,hr1,Zj1,hr10,hr11]<;>rfl)
     ·cases hh
      try simp only[dt,seval,-Int.reduceToNat,hr1,Zj1]
      rw[al]
      refine⟨_,rfl,?_⟩
      refine⟨v2j1,v3j1,v4j1,?_,?_,?_,?_,?_,?_⟩
      all_goals first|rfl|(simp only[dt,seval,-Int.reduceToNat,hr1,Zj1]<;>rfl)
 ·clear hh
  have hh:=ho2
  try simp only[dt,seval,-Int.reduceToNat,hr1]
  refine sp aP hh (fun _ hh =>?_) (fun _ hh =>?_)
  ·cases hh
   try simp only[dt,seval,-Int.reduceToNat,hr1]
   rw[al]
   refine⟨_,rfl,?_⟩
   refine⟨0,0,0,?_,?_,?_,?_,?_,?_,?_⟩
   all_goals first|rfl|(simp only[dt,seval,-Int.reduceToNat,hr1]<;>rfl)
  ·obtain⟨r13,hr13,hh⟩:=ae hh
   cases hh
   try simp only[dt,seval,-Int.reduceToNat,hr1,hr13]
   rw[al]
   refine⟨_,rfl,?_⟩
   refine⟨0,0,0,?_,?_,?_,?_,?_,?_,?_⟩
   all_goals first|rfl|(simp only[dt,seval,-Int.reduceToNat,hr1,hr13]<;>rfl)
theorem KX:bI Tryz.prog 102 wG:=bI.of (mode := .clean) tok Ku mixed Tryz.func102 (by kernel_rfl) ⟨by kernel_rfl,by kernel_rfl⟩ (fun _=>Nat.le_of_ble_eq_true (by kernel_rfl)) (fun x r h=>NS x.1 x.2 r h)
noncomputable def zn:=ez (dX (aI .i64) (dJ (aI .i64))) (fun x:Int×Int=>BA x.1 x.2) (fun r:ba×Int =>.clean (.tup [.agg [.int .i64 r.1.cH.ah,.sl false false r.1.cH.aa.length (ab (eI .i64) r.1.cH.aa),.int .i64 r.1.cB.ah,.sl false false r.1.cB.aa.length (ab (eI .i64) r.1.cB.aa)],.int .i64 r.2]))
theorem Jh (p0:Int) (p1:Int):zn none [.int .i64 p0,.int .i64 p1]=(BA p0 p1).map fun r:ba×Int=>(.clean (.tup [.agg [.int .i64 r.1.cH.ah,.sl false false r.1.cH.aa.length (ab (eI .i64) r.1.cH.aa),.int .i64 r.1.cB.ah,.sl false false r.1.cB.aa.length (ab (eI .i64) r.1.cB.aa)],.int .i64 r.2]),none):=aE _ _ _ (p0,p1)
noncomputable def vt:Env:=(Am.ext (Am.ext aT 102 false wG) 103 false zm)
theorem NG:bM Tryz.prog vt:=((bM.none.add KX false).add N0 false)
theorem RO:type_of% (ai @w<|ai @EA<|ai @Jg<|@vt.eq_1):=⟨@w,@EA,@Jg,@vt.eq_1⟩
theorem Qb (p0:Int) (p1:Int) (r:ba×Int) (hh:BA p0 p1=some r):aQ .clean tab vt FU Tryz.f59 none [.int .i64 p0,.int .i64 p1]=some (.clean (.tup [.agg [.int .i64 r.1.cH.ah,.sl false false r.1.cH.aa.length (ab (eI .i64) r.1.cH.aa),.int .i64 r.1.cB.ah,.sl false false r.1.cB.aa.length (ab (eI .i64) r.1.cB.aa)],.int .i64 r.2]),none):=by
 refine aw rfl Tryz.ntmps59 Tryz.results59 ?_
 unfold BA at hh
 obtain⟨r1,hr1,hh⟩:=ae hh
 obtain⟨r2,hr2,hh⟩:=ae hh
 obtain⟨r3,hr3,hh⟩:=ae hh
 cases hh
 try simp only[RO,seval,-Int.reduceToNat,hr1,hr2,hr3]
theorem N1:bI Tryz.prog 59 zn:=bI.of (mode := .clean) tok NG mixed Tryz.func59 (by kernel_rfl) ⟨by kernel_rfl,by kernel_rfl⟩ (fun _=>Nat.le_of_ble_eq_true (by kernel_rfl)) (fun x r h=>Qb x.1 x.2 r h)
noncomputable def wF:=ez (dJ (aI .i64)) (fun x:Int=>sQ x) (fun r:ba =>.clean (.agg [.int .i64 r.cH.ah,.sl false false r.cH.aa.length (ab (eI .i64) r.cH.aa),.int .i64 r.cB.ah,.sl false false r.cB.aa.length (ab (eI .i64) r.cB.aa)]))
theorem Ez (p0:Int):wF none [.int .i64 p0]=(sQ p0).map fun r:ba=>(.clean (.agg [.int .i64 r.cH.ah,.sl false false r.cH.aa.length (ab (eI .i64) r.cH.aa),.int .i64 r.cB.ah,.sl false false r.cB.aa.length (ab (eI .i64) r.cB.aa)]),none):=aE _ _ _ (p0)
noncomputable def sI:Env:=(Am.ext aT 59 false zn)
theorem Ks:bM Tryz.prog sI:=(bM.none.add N1 false)
theorem Ot:type_of% (ai @w<|ai @Jh<|@sI.eq_1):=⟨@w,@Jh,@sI.eq_1⟩
theorem NR (p0:Int) (r:ba) (hh:sQ p0=some r):aQ .clean tab sI FU Tryz.f32 none [.int .i64 p0]=some (.clean (.agg [.int .i64 r.cH.ah,.sl false false r.cH.aa.length (ab (eI .i64) r.cH.aa),.int .i64 r.cB.ah,.sl false false r.cB.aa.length (ab (eI .i64) r.cB.aa)]),none):=by
 refine aw rfl Tryz.ntmps32 Tryz.results32 ?_
 unfold sQ at hh
 obtain⟨r1,hr1,hh⟩:=ae hh
 cases hh
 try simp only[Ot,seval,-Int.reduceToNat,hr1]
theorem KW:bI Tryz.prog 32 wF:=bI.of (mode := .clean) tok Ks mixed Tryz.func32 (by kernel_rfl) ⟨by kernel_rfl,by kernel_rfl⟩ (fun _=>Nat.le_of_ble_eq_true (by kernel_rfl)) (fun x r h=>NR x r h)
noncomputable def oh:=ez (dX (aI .i64) (dJ (aI .i64))) (fun x:Int×Int=>fR x.1 x.2) (fun r:gx =>.clean (.agg [.int .i64 r.bz.cH.ah,.sl false false r.bz.cH.aa.length (ab (eI .i64) r.bz.cH.aa),.int .i64 r.bz.cB.ah,.sl false false r.bz.cB.aa.length (ab (eI .i64) r.bz.cB.aa),.int .i64 r.aY.cH.ah,.sl false false r.aY.cH.aa.length (ab (eI .i64) r.aY.cH.aa),.int .i64 r.aY.cB.ah,.sl false false r.aY.cB.aa.length (ab (eI .i64) r.aY.cB.aa)]))
theorem tJ (p0:Int) (p1:Int):oh none [.int .i64 p0,.int .i64 p1]=(fR p0 p1).map fun r:gx=>(.clean (.agg [.int .i64 r.bz.cH.ah,.sl false false r.bz.cH.aa.length (ab (eI .i64) r.bz.cH.aa),.int .i64 r.bz.cB.ah,.sl false false r.bz.cB.aa.length (ab (eI .i64) r.bz.cB.aa),.int .i64 r.aY.cH.ah,.sl false false r.aY.cH.aa.length (ab (eI .i64) r.aY.cH.aa),.int .i64 r.aY.cB.ah,.sl false false r.aY.cB.aa.length (ab (eI .i64) r.aY.cB.aa)]),none):=aE _ _ _ (p0,p1)
noncomputable def k9:Env:=(Am.ext aT 32 false wF)
theorem AO:bM Tryz.prog k9:=(bM.none.add KW false)
theorem CW:type_of% (ai @w<|ai @Ez<|@k9.eq_1):=⟨@w,@Ez,@k9.eq_1⟩
theorem CB (p0:Int) (p1:Int) (r:gx) (hh:fR p0 p1=some r):aQ .clean tab k9 FU Tryz.f35 none [.int .i64 p0,.int .i64 p1]=some (.clean (.agg [.int .i64 r.bz.cH.ah,.sl false false r.bz.cH.aa.length (ab (eI .i64) r.bz.cH.aa),.int .i64 r.bz.cB.ah,.sl false false r.bz.cB.aa.length (ab (eI .i64) r.bz.cB.aa),.int .i64 r.aY.cH.ah,.sl false false r.aY.cH.aa.length (ab (eI .i64) r.aY.cH.aa),.int .i64 r.aY.cB.ah,.sl false false r.aY.cB.aa.length (ab (eI .i64) r.aY.cB.aa)]),none):=by
 refine aw rfl Tryz.ntmps35 Tryz.results35 ?_
 unfold fR at hh
 obtain⟨r1,hr1,hh⟩:=ae hh
 obtain⟨r2,hr2,hh⟩:=ae hh
 cases hh
 try simp only[CW,seval,-Int.reduceToNat,hr1,hr2]
theorem Bh:bI Tryz.prog 35 oh:=bI.of (mode := .clean) tok AO mixed Tryz.func35 (by kernel_rfl) ⟨by kernel_rfl,by kernel_rfl⟩ (fun _=>Nat.le_of_ble_eq_true (by kernel_rfl)) (fun x r h=>CB x.1 x.2 r h)
noncomputable def gS:=ez (dJ (dU gN)) (fun x:ay=>dH x) (fun r:Bool =>.clean (.bool r))
theorem eG (p0_0:Int) (p0_1:(List Int)):gS none [.agg [.int .i64 p0_0,.sl false false p0_1.length (ab (eI .i64) p0_1)]]=(dH (ay.mk p0_0 p0_1)).map fun r:Bool=>(.clean (.bool r),none):=aE _ _ _ ((ay.mk p0_0 p0_1))
theorem Iv (p0:ay) (r:Bool) (hh:dH p0=some r):aQ .clean tab aT FU Tryz.f97 none [.agg [.int .i64 p0.ah,.sl false false p0.aa.length (ab (eI .i64) p0.aa)]]=some (.clean (.bool r),none):=by
 refine aw rfl Tryz.ntmps97 Tryz.results97 ?_
 unfold dH at hh
 try simp only[w,seval,-Int.reduceToNat]
 obtain⟨o5,ho5,hh⟩:=ae hh
 refine ax (fun s t H e=>match s with|s12a=>∃v1a:Nat,t 1=.ptr 1 v1a 0∧t 3=.int .i64 (p0.aa.length:Int)∧t 10=.sl false false p0.aa.length (ab (eI .i64) p0.aa)∧t 11=.int .i64 (p0.aa.length:Int)∧t 12=.int .i64 s12a∧H 1=some ⟨v1a,49,[.int .i64 p0.ah,.sl false false p0.aa.length (ab (eI .i64) p0.aa)],false,false,false⟩) (fun o x t H e=>match o with|(.inl _)=>x=.exit 0∧∃v1ax:Nat,t 1=.ptr 1 v1ax 0∧t 3=.int .i64 (p0.aa.length:Int)∧H 1=some ⟨v1ax,49,[.int .i64 p0.ah,.sl false false p0.aa.length (ab (eI .i64) p0.aa)],false,false,false⟩|(.inr r)=>x=.ret∧fw .clean tab none [.tmp 2] ⟨t,H,e⟩=some (.clean (.bool r),none)) ho5 ?_ ?_ ?_
 ·refine⟨0,?_,?_,?_,?_,?_,?_⟩
  all_goals first|rfl|(simp only[w,seval,-Int.reduceToNat]<;>rfl)
 ·rintro s12a t H e ⟨v1a,Za⟩ c hh
  simp only[l7]at hh
  try simp only[w,seval,-Int.reduceToNat,Za]
  refine sp aj hh (fun _ hh =>?_) (fun _ hh =>?_)
  ·obtain⟨x7,hx7,hh⟩:=ae hh
   have ax7:=bT (eI .i64) hx7
   simp only[bY]at ax7
   try simp only[w,seval,-Int.reduceToNat,Za,ax7]
   refine sp aP hh (fun _ hh =>?_) (fun _ hh =>?_)
   ·cases hh
    try simp only[w,seval,-Int.reduceToNat,Za,ax7]
    refine wq ⟨rfl,?_⟩
    try simp only[w,seval,-Int.reduceToNat,Za,ax7]
   ·try simp only[w,seval,-Int.reduceToNat,Za,ax7]
    refine sp aj hh (fun _ hh =>?_) (fun _ hh =>?_)
    ·cases hh
     try simp only[w,seval,-Int.reduceToNat,Za,ax7]
     refine wq ⟨rfl,?_⟩
     try simp only[w,seval,-Int.reduceToNat,Za,ax7]
    ·cases hh
     try simp only[w,seval,-Int.reduceToNat,Za,ax7]
     refine jg ?_
     refine⟨v1a,?_,?_,?_,?_,?_,?_⟩
     all_goals first|rfl|(simp only[w,seval,-Int.reduceToNat,Za,ax7]<;>rfl)
  ·cases hh
   try simp only[w,seval,-Int.reduceToNat,Za]
   refine kl ?_
   refine⟨rfl,⟨v1a,?_,?_,?_⟩⟩
   all_goals first|rfl|(simp only[w,seval,-Int.reduceToNat,Za]<;>rfl)
 ·rintro x t H e hx
  rcases o5 with _|ra
  ·dsimp only at hx hh
   obtain⟨rfl,⟨v1ax,Zax⟩⟩:=hx
   try simp only[w,seval,-Int.reduceToNat,Zax]
   refine sp aj hh (fun _ hh =>?_) (fun _ hh =>?_)
   ·cases hh
    try simp only[w,seval,-Int.reduceToNat,Zax]
   ·try simp only[w,seval,-Int.reduceToNat,Zax]
    refine sp aP hh (fun _ hh =>?_) (fun _ hh =>?_)
    ·obtain⟨x12,hx12,hh⟩:=ae hh
     have ax12:=bT (eI .i64) hx12
     simp only[bY]at ax12
     cases hh
     try simp only[w,seval,-Int.reduceToNat,Zax,ax12]
    ·try simp only[w,seval,-Int.reduceToNat,Zax]
     refine sp bm hh (fun _ hh =>?_) (fun _ hh =>?_)
     ·obtain⟨x14,hx14,hh⟩:=ae hh
      have ax14:=bT (eI .i64) hx14
      simp only[bY]at ax14
      cases hh
      try simp only[w,seval,-Int.reduceToNat,Zax,ax14]
     ·cases hh
      try simp only[w,seval,-Int.reduceToNat,Zax]
  ·dsimp only at hx hh
   obtain⟨rfl,hE⟩:=hx
   cases hh
   try simp only[aZ,aR,bc,cu,cr]
   exact hE
theorem jZ:bI Tryz.prog 97 gS:=bI.of (mode := .clean) tok bM.none mixed Tryz.func97 (by kernel_rfl) ⟨by kernel_rfl,by kernel_rfl⟩ (fun _=>Nat.le_of_ble_eq_true (by kernel_rfl)) (fun x r h=>Iv x r h)
noncomputable def kN:=ez (dX UA (dJ (dU gN))) (fun x:Bool×ay=>e9 x.1 x.2) (fun r:ay×Int =>.clean (.tup [.agg [.int .i64 r.1.ah,.sl false false r.1.aa.length (ab (eI .i64) r.1.aa)],.int .i64 r.2]))
theorem gF (p0:Bool) (p1_0:Int) (p1_1:(List Int)):kN none [.bool p0,.agg [.int .i64 p1_0,.sl false false p1_1.length (ab (eI .i64) p1_1)]]=(e9 p0 (ay.mk p1_0 p1_1)).map fun r:ay×Int=>(.clean (.tup [.agg [.int .i64 r.1.ah,.sl false false r.1.aa.length (ab (eI .i64) r.1.aa)],.int .i64 r.2]),none):=aE _ _ _ (p0,(ay.mk p1_0 p1_1))
theorem Cy (p0:Bool) (p1:ay) (r:ay×Int) (hh:e9 p0 p1=some r):aQ .clean tab aT FU Tryz.f124 none [.bool p0,.agg [.int .i64 p1.ah,.sl false false p1.aa.length (ab (eI .i64) p1.aa)]]=some (.clean (.tup [.agg [.int .i64 r.1.ah,.sl false false r.1.aa.length (ab (eI .i64) r.1.aa)],.int .i64 r.2]),none):=by
 refine aw rfl Tryz.ntmps124 Tryz.results124 ?_
 unfold e9 at hh
 try simp only[w,seval,-Int.reduceToNat]
 refine sp aj hh (fun _ hh =>?_) (fun _ hh =>?_)
 ·cases hh
  try simp only[w,seval,-Int.reduceToNat]
 ·cases hh
  try simp only[w,seval,-Int.reduceToNat]
theorem rS:bI Tryz.prog 124 kN:=bI.of (mode := .clean) tok bM.none mixed Tryz.func124 (by kernel_rfl) ⟨by kernel_rfl,by kernel_rfl⟩ (fun _=>Nat.le_of_ble_eq_true (by kernel_rfl)) (fun x r h=>Cy x.1 x.2 r h)
noncomputable def nE:=ez (dJ (aI .i64)) (fun x:Int=>ir x) (fun r:Bool =>.clean (.bool r))
theorem nX (p0:Int):nE none [.int .i64 p0]=(ir p0).map fun r:Bool=>(.clean (.bool r),none):=aE _ _ _ (p0)
theorem Ix (p0:Int) (r:Bool) (hh:ir p0=some r):aQ .clean tab aT FU Tryz.f166 none [.int .i64 p0]=some (.clean (.bool r),none):=by
 refine aw rfl Tryz.ntmps166 Tryz.results166 ?_
 unfold ir at hh
 cases hh
 try simp only[w,seval,-Int.reduceToNat]
theorem vF:bI Tryz.prog 166 nE:=bI.of (mode := .clean) tok bM.none mixed Tryz.func166 (by kernel_rfl) ⟨by kernel_rfl,by kernel_rfl⟩ (fun _=>Nat.le_of_ble_eq_true (by kernel_rfl)) (fun x r h=>Ix x r h)
noncomputable def kP:=ez (dX (aI .i64) (dJ (aI .i64))) (fun x:Int×Int=>fb x.1 x.2) (fun r:Int =>.clean (.int .i64 r))
theorem lk (p0:Int) (p1:Int):kP none [.int .i64 p0,.int .i64 p1]=(fb p0 p1).map fun r:Int=>(.clean (.int .i64 r),none):=aE _ _ _ (p0,p1)
noncomputable def kZ:Env:=(Am.ext aT 166 false nE)
theorem AN:bM Tryz.prog kZ:=(bM.none.add vF false)
theorem dh:type_of% (ai @w<|ai @nX<|@kZ.eq_1):=⟨@w,@nX,@kZ.eq_1⟩
theorem CA (p0:Int) (p1:Int) (r:Int) (hh:fb p0 p1=some r):aQ .clean tab kZ FU Tryz.f128 none [.int .i64 p0,.int .i64 p1]=some (.clean (.int .i64 r),none):=by
 refine aw rfl Tryz.ntmps128 Tryz.results128 ?_
 unfold fb at hh
 obtain⟨r1,hr1,hh⟩:=ae hh
 obtain⟨r2,hr2,hh⟩:=ae hh
 try simp only[dh,seval,-Int.reduceToNat,hr1,hr2]
 refine sp aj hh (fun _ hh =>?_) (fun _ hh =>?_)
 ·try simp only[dh,seval,-Int.reduceToNat,hr1,hr2]
  refine sp aj hh (fun _ hh =>?_) (fun _ hh =>?_)
  ·cases hh
   try simp only[dh,seval,-Int.reduceToNat,hr1,hr2]
  ·cases hh
   try simp only[dh,seval,-Int.reduceToNat,hr1,hr2]
 ·try simp only[dh,seval,-Int.reduceToNat,hr1,hr2]
  refine sp aj hh (fun _ hh =>?_) (fun _ hh =>?_)
  ·cases hh
   try simp only[dh,seval,-Int.reduceToNat,hr1,hr2]
  ·try simp only[dh,seval,-Int.reduceToNat,hr1,hr2]
   refine sp aj hh (fun _ hh =>?_) (fun _ hh =>?_)
   ·cases hh
    try simp only[dh,seval,-Int.reduceToNat,hr1,hr2]
   ·try simp only[dh,seval,-Int.reduceToNat,hr1,hr2]
    refine sp aj hh (fun _ hh =>?_) (fun _ hh =>?_)
    ·cases hh
     try simp only[dh,seval,-Int.reduceToNat,hr1,hr2]
    ·cases hh
     try simp only[dh,seval,-Int.reduceToNat,hr1,hr2]
theorem rV:bI Tryz.prog 128 kP:=bI.of (mode := .clean) tok AN mixed Tryz.func128 (by kernel_rfl) ⟨by kernel_rfl,by kernel_rfl⟩ (fun _=>Nat.le_of_ble_eq_true (by kernel_rfl)) (fun x r h=>CA x.1 x.2 r h)
noncomputable def kO:=ez (dX (gg (eI .i64)) (dJ (gg (eI .i64)))) (fun x:(List Int)×(List Int)=>eE x.1 x.2) (fun r:Int =>.clean (.int .i64 r))
theorem lj (p0:(List Int)) (p1:(List Int)):kO none [.sl false false p0.length (ab (eI .i64) p0),.sl false false p1.length (ab (eI .i64) p1)]=(eE p0 p1).map fun r:Int=>(.clean (.int .i64 r),none):=aE _ _ _ (p0,p1)
noncomputable def kY:Env:=(Am.ext aT 128 false kP)
theorem AM:bM Tryz.prog kY:=(bM.none.add rV false)
theorem ch:type_of% (ai @w<|ai @lk<|@kY.eq_1):=⟨@w,@lk,@kY.eq_1⟩
theorem Cz (p0:(List Int)) (p1:(List Int)) (r:Int) (hh:eE p0 p1=some r):aQ .clean tab kY FU Tryz.f129 none [.sl false false p0.length (ab (eI .i64) p0),.sl false false p1.length (ab (eI .i64) p1)]=some (.clean (.int .i64 r),none):=by
 refine aw rfl Tryz.ntmps129 Tryz.results129 ?_
 unfold eE at hh
 try simp only[ch,seval,-Int.reduceToNat]
 refine sp aj hh (fun _ hh =>?_) (fun _ hh =>?_)
 ·obtain⟨r2,hr2,hh⟩:=ae hh
  cases hh
  try simp only[ch,seval,-Int.reduceToNat,hr2]
 ·try simp only[ch,seval,-Int.reduceToNat]
  obtain⟨o8,ho8,hh⟩:=ae hh
  refine ax (fun s t H e=>match s with|s5a=>t 0=.sl false false p0.length (ab (eI .i64) p0)∧t 1=.sl false false p1.length (ab (eI .i64) p1)∧t 5=.int .i64 s5a) (fun o x t H e=>match o with|(.inl _)=>x=.exit 0|(.inr r)=>x=.ret∧fw .clean tab none [.tmp 4] ⟨t,H,e⟩=some (.clean (.int .i64 r),none)) ho8 ?_ ?_ ?_
  ·refine⟨?_,?_,?_⟩
   all_goals first|rfl|(simp only[ch,seval,-Int.reduceToNat]<;>rfl)
  ·rintro s5a t H e Za c hh
   simp only[jR]at hh
   try simp only[ch,seval,-Int.reduceToNat,Za]
   refine sp aj hh (fun _ hh =>?_) (fun _ hh =>?_)
   ·obtain⟨x10,hx10,hh⟩:=ae hh
    have ax10:=bT (eI .i64) hx10
    simp only[bY]at ax10
    obtain⟨x11,hx11,hh⟩:=ae hh
    have ax11:=bT (eI .i64) hx11
    simp only[bY]at ax11
    try simp only[ch,seval,-Int.reduceToNat,Za,ax10,ax11]
    refine b6 (by kernel_rfl) ?_
    try simp only[ch,seval,-Int.reduceToNat,Za,ax10,ax11]
    refine sp aj hh (fun _ hh =>?_) (fun _ hh =>?_)
    ·have ax10:=bT (eI .i64) hx10
     simp only[bY]at ax10
     have ax11:=bT (eI .i64) hx11
     simp only[bY]at ax11
     obtain⟨r13,hr13,hh⟩:=ae hh
     try simp only[ch,seval,-Int.reduceToNat,Za,ax10,ax11,ax10,ax11,hr13]
     refine b6 (by kernel_rfl) ?_
     cases hh
     try simp only[ch,seval,-Int.reduceToNat,Za,ax10,ax11,ax10,ax11,hr13]
     refine wq ⟨rfl,?_⟩
     try simp only[ch,seval,-Int.reduceToNat,Za,ax10,ax11,ax10,ax11,hr13]
    ·cases hh
     try simp only[ch,seval,-Int.reduceToNat,Za,ax10,ax11]
     refine jg ?_
     refine⟨?_,?_,?_⟩
     all_goals first|rfl|(simp only[ch,seval,-Int.reduceToNat,Za,ax10,ax11]<;>rfl)
   ·cases hh
    try simp only[ch,seval,-Int.reduceToNat,Za]
    refine kl ?_
    exact rfl
  ·rintro x t H e hx
   rcases o8 with _|ra
   ·dsimp only at hx hh
    subst hx
    cases hh
    try simp only[ch,seval,-Int.reduceToNat]
   ·dsimp only at hx hh
    obtain⟨rfl,hE⟩:=hx
    cases hh
    try simp only[aZ,aR,bc,cu,cr]
    exact hE
theorem rT:bI Tryz.prog 129 kO:=bI.of (mode := .clean) tok AM mixed Tryz.func129 (by kernel_rfl) ⟨by kernel_rfl,by kernel_rfl⟩ (fun _=>Nat.le_of_ble_eq_true (by kernel_rfl)) (fun x r h=>Cz x.1 x.2 r h)
noncomputable def mJ:=ez (dJ (gg (eI .i64))) (fun x:(List Int)=>ee x) (fun r:(List Int) =>.clean (.sl false false r.length (ab (eI .i64) r)))
theorem jj (p0:(List Int)):mJ none [.sl false false p0.length (ab (eI .i64) p0)]=(ee p0).map fun r:(List Int)=>(.clean (.sl false false r.length (ab (eI .i64) r)),none):=aE _ _ _ (p0)
theorem KB (p0:(List Int)) (r:(List Int)) (hh:ee p0=some r):aQ .clean tab aT FU Tryz.f163 none [.sl false false p0.length (ab (eI .i64) p0)]=some (.clean (.sl false false r.length (ab (eI .i64) r)),none):=by
 refine aw rfl Tryz.ntmps163 Tryz.results163 ?_
 unfold ee at hh
 try simp only[w,seval,-Int.reduceToNat]
 obtain⟨o4,ho4,hh⟩:=ae hh
 refine ax (fun s t H e=>match s with|s3a=>t 0=.sl false false p0.length (ab (eI .i64) p0)∧t 3=.int .i64 s3a) (fun o x t H e=>match o with|s3ax=>x=.exit 0∧t 0=.sl false false p0.length (ab (eI .i64) p0)∧t 3=.int .i64 s3ax) ho4 ?_ ?_ ?_
 ·refine⟨?_,?_⟩
  all_goals first|rfl|(simp only[w,seval,-Int.reduceToNat]<;>rfl)
 ·rintro s3a t H e Za c hh
  simp only[lq]at hh
  try simp only[w,seval,-Int.reduceToNat,Za]
  refine sp bm hh (fun _ hh =>?_) (fun _ hh =>?_)
  ·obtain⟨x6,hx6,hh⟩:=ae hh
   have ax6:=bT (eI .i64) hx6
   simp only[bY]at ax6
   try simp only[w,seval,-Int.reduceToNat,Za,ax6]
   refine sp aj hh (fun _ hh =>?_) (fun _ hh =>?_)
   ·cases hh
    try simp only[w,seval,-Int.reduceToNat,Za,ax6]
    refine jg ?_
    refine⟨?_,?_⟩
    all_goals first|rfl|(simp only[w,seval,-Int.reduceToNat,Za,ax6]<;>rfl)
   ·cases hh
    try simp only[w,seval,-Int.reduceToNat,Za,ax6]
    refine kl ?_
    refine⟨rfl,⟨?_,?_⟩⟩
    all_goals first|rfl|(simp only[w,seval,-Int.reduceToNat,Za,ax6]<;>rfl)
  ·cases hh
   try simp only[w,seval,-Int.reduceToNat,Za]
   refine kl ?_
   refine⟨rfl,⟨?_,?_⟩⟩
   all_goals first|rfl|(simp only[w,seval,-Int.reduceToNat,Za]<;>rfl)
 ·rintro x t H e hx
  obtain⟨s3ax,rfl⟩:∃z,z=o4:=⟨_,rfl⟩
  dsimp only at hx hh
  obtain⟨rfl,Zax⟩:=hx
  obtain⟨x8,hx8,hh⟩:=ae hh
  obtain⟨q9a,q9b,q9c,q9d,q9e⟩:=uD (eI .i64) hx8
  simp only[bY]at q9e
  cases hh
  try simp only[w,seval,-Int.reduceToNat,Zax,q9a,q9b,q9c,q9d,q9e]
theorem rU:bI Tryz.prog 163 mJ:=bI.of (mode := .clean) tok bM.none mixed Tryz.func163 (by kernel_rfl) ⟨by kernel_rfl,by kernel_rfl⟩ (fun _=>Nat.le_of_ble_eq_true (by kernel_rfl)) (fun x r h=>KB x r h)
noncomputable def oW:=Tq 3 (eI .i64) (RQ) (fun (l:(List Int)) (x:Unit)=>ee l)
theorem Ge (pre post:List D) (p0:(List Int)):oW (some (.buf 0 0 1 pre.length p0.length,⟨0,3,pre++(ab (eI .i64) p0++post),false,true,false⟩)) []=(ee p0).map fun r=>(.fresh 3 1 r.length (ab (eI .i64) r),none):=Qd _ _ _ _ pre post p0 ()
theorem FJ (pre post:List D) (p0:(List Int)) (r:(List Int)) (hh:ee p0=some r):aQ (.fresh 3 1) tab aT FU Tryz.f163 (some (.buf 0 0 1 pre.length p0.length,⟨0,3,pre++(ab (eI .i64) p0++post),false,true,false⟩)) []=some (.fresh 3 1 r.length (ab (eI .i64) r),none):=by
 refine nw rfl Tryz.ntmps163 Tryz.results163 ?_
 unfold ee at hh
 try simp only[w,seval,-Int.reduceToNat]
 obtain⟨o4,ho4,hh⟩:=ae hh
 refine ax (fun s t H e=>match s with|s3a=>∃v0a:Nat,t 0=.buf 0 v0a 1 pre.length (p0).length∧t 3=.int .i64 s3a∧H 0=some ⟨v0a,3,pre++(ab (eI .i64) p0++post),false,true,false⟩) (fun o x t H e=>match o with|s3ax=>x=.exit 0∧∃v0ax:Nat,t 0=.buf 0 v0ax 1 pre.length (p0).length∧t 3=.int .i64 s3ax∧H 0=some ⟨v0ax,3,pre++(ab (eI .i64) p0++post),false,true,false⟩) ho4 ?_ ?_ ?_
 ·refine⟨0,?_,?_,?_⟩
  all_goals first|rfl|(simp only[w,seval,-Int.reduceToNat]<;>rfl)
 ·rintro s3a t H e ⟨v0a,Za⟩ c hh
  simp only[lq]at hh
  try simp only[w,seval,-Int.reduceToNat,Za]
  refine sp bm hh (fun _ hh =>?_) (fun _ hh =>?_)
  ·obtain⟨x6,hx6,hh⟩:=ae hh
   have ax6:=rJ (pre:=pre) (post:=post) (eI .i64) hx6
   simp only[bY]at ax6
   try simp only[w,seval,-Int.reduceToNat,Za,ax6]
   refine sp aj hh (fun _ hh =>?_) (fun _ hh =>?_)
   ·cases hh
    try simp only[w,seval,-Int.reduceToNat,Za,ax6]
    refine jg ?_
    refine⟨v0a,?_,?_,?_⟩
    all_goals first|rfl|(simp only[w,seval,-Int.reduceToNat,Za,ax6]<;>rfl)
   ·cases hh
    try simp only[w,seval,-Int.reduceToNat,Za,ax6]
    refine kl ?_
    refine⟨rfl,⟨v0a,?_,?_,?_⟩⟩
    all_goals first|rfl|(simp only[w,seval,-Int.reduceToNat,Za,ax6]<;>rfl)
  ·cases hh
   try simp only[w,seval,-Int.reduceToNat,Za]
   refine kl ?_
   refine⟨rfl,⟨v0a,?_,?_,?_⟩⟩
   all_goals first|rfl|(simp only[w,seval,-Int.reduceToNat,Za]<;>rfl)
 ·rintro x t H e hx
  obtain⟨s3ax,rfl⟩:∃z,z=o4:=⟨_,rfl⟩
  dsimp only at hx hh
  obtain⟨rfl,⟨v0ax,Zax⟩⟩:=hx
  obtain⟨x8,hx8,hh⟩:=ae hh
  obtain⟨q9a,q9b,q9c,q9d,q9e⟩:=uD (eI .i64) hx8
  simp only[bY]at q9e
  obtain⟨q9f,q9g⟩:=SG (pre:=pre) (post:=post) (eI .i64) hx8
  simp only[bY]at q9f q9g
  cases hh
  try simp only[w,seval,-Int.reduceToNat,Zax,q9a,q9b,q9c,q9f,q9g,q9d]
theorem CG:bI Tryz.prog 163 oW:=bI.UP tok bM.none mixed Tryz.func163 (by kernel_rfl) ⟨by kernel_rfl,by kernel_rfl⟩ (fun _=>Nat.le_of_ble_eq_true (by kernel_rfl)) (fun pre post l x r h=>FJ pre post l r h)
noncomputable def qO:=ez (dX (gg (eI .i64)) (dJ (aI .i64))) (fun x:(List Int)×Int=>jt x.1 x.2) (fun r:(List Int)×Int =>.clean (.tup [.sl false false r.1.length (ab (eI .i64) r.1),.int .i64 r.2]))
theorem yc (p0:(List Int)) (p1:Int):qO none [.sl false false p0.length (ab (eI .i64) p0),.int .i64 p1]=(jt p0 p1).map fun r:(List Int)×Int=>(.clean (.tup [.sl false false r.1.length (ab (eI .i64) r.1),.int .i64 r.2]),none):=aE _ _ _ (p0,p1)
noncomputable def nK:Env:=(Am.ext aT 163 false mJ)
theorem Fw:bM Tryz.prog nK:=(bM.none.add rU false)
theorem fW:type_of% (ai @w<|ai @jj<|@nK.eq_1):=⟨@w,@jj,@nK.eq_1⟩
theorem Iw (p0:(List Int)) (p1:Int) (r:(List Int)×Int) (hh:jt p0 p1=some r):aQ .clean tab nK FU Tryz.f162 none [.sl false false p0.length (ab (eI .i64) p0),.int .i64 p1]=some (.clean (.tup [.sl false false r.1.length (ab (eI .i64) r.1),.int .i64 r.2]),none):=by
 refine aw rfl Tryz.ntmps162 Tryz.results162 ?_
 unfold jt at hh
 obtain⟨x1,hx1,hh⟩:=ae hh
 obtain⟨q2a,q2b,q2c,q2d,q2e⟩:=mk_one (eI .i64) hx1
 simp only[bY]at q2d
 try simp only[fW,seval,-Int.reduceToNat,q2a,q2b,q2c,q2d,q2e]
 obtain⟨o13,ho13,hh⟩:=ae hh
 refine ax (fun s t H e=>match s with|(s7a,s8a,l6a)=>∃v6a:Nat,t 0=.sl false false p0.length (ab (eI .i64) p0)∧t 1=.int .i64 p1∧t 6=.buf 6 v6a 1 0 (l6a).length∧t 7=.int .i64 s7a∧t 8=.int .i64 s8a∧H 6=some ⟨v6a,3,ab (eI .i64) l6a,false,true,false⟩) (fun o x t H e=>match o with|(s7ax,l6ax)=>x=.exit 0∧∃v6ax:Nat,t 6=.buf 6 v6ax 1 0 (l6ax).length∧t 7=.int .i64 s7ax∧H 6=some ⟨v6ax,3,ab (eI .i64) l6ax,false,true,false⟩) ho13 ?_ ?_ ?_
 ·refine⟨1,?_,?_,?_,?_,?_,?_⟩
  all_goals first|rfl|(simp only[fW,seval,-Int.reduceToNat,q2a,q2b,q2c,q2d,q2e]<;>rfl)
 ·rintro⟨s7a,s8a,l6a⟩ t H e ⟨v6a,Za⟩ c hh
  simp only[l9]at hh
  try simp only[fW,seval,-Int.reduceToNat,q2a,q2b,q2c,q2d,q2e,Za]
  refine sp aj hh (fun _ hh =>?_) (fun _ hh =>?_)
  ·obtain⟨x15,hx15,hh⟩:=ae hh
   have q16:=zg hx15
   obtain⟨x17,hx17,hh⟩:=ae hh
   have ax17:=bT (eI .i64) hx17
   simp only[bY]at ax17
   obtain⟨x18,hx18,hh⟩:=ae hh
   have q19:=pz hx18
   obtain⟨x20,hx20,hh⟩:=ae hh
   have ax20:=bT (eI .i64) hx20
   simp only[bY]at ax20
   have p21:=nV (eI .i64) (x':=x18) (fo:=0) (cs:=[.int .i64 x18]) hx20 rfl (Nat.le_of_ble_eq_true rfl)
   simp only[bY,Nat.add_zero]at p21
   have up21:=p21
   simp only[putCells,List.length_cons,List.length_nil,Nat.zero_add,Nat.reduceAdd]at up21
   obtain⟨x22,hx22,hh⟩:=ae hh
   have q23:=pM hx22
   cases hh
   try simp only[fW,seval,-Int.reduceToNat,q2a,q2b,q2c,q2d,q2e,Za,q16,ax17,q19,ax20,p21,up21,q23]
   refine jg ?_
   refine⟨v6a,?_,?_,?_,?_,?_,?_⟩
   all_goals first|rfl|(simp only[fW,seval,-Int.reduceToNat,q2a,q2b,q2c,q2d,q2e,Za,q16,ax17,q19,ax20,p21,up21,q23]<;>rfl)
  ·cases hh
   try simp only[fW,seval,-Int.reduceToNat,q2a,q2b,q2c,q2d,q2e,Za]
   refine kl ?_
   refine⟨rfl,⟨v6a,?_,?_,?_⟩⟩
   all_goals first|rfl|(simp only[fW,seval,-Int.reduceToNat,q2a,q2b,q2c,q2d,q2e,Za]<;>rfl)
 ·rintro x t H e hx
  rcases o13 with⟨s7ax,l6ax⟩
  dsimp only at hx hh
  obtain⟨rfl,⟨v6ax,Zax⟩⟩:=hx
  obtain⟨r24,hr24,hh⟩:=ae hh
  cases hh
  try simp only[fW,seval,-Int.reduceToNat,q2a,q2b,q2c,q2d,q2e,Zax,hr24]
theorem F2:bI Tryz.prog 162 qO:=bI.of (mode := .clean) tok Fw mixed Tryz.func162 (by kernel_rfl) ⟨by kernel_rfl,by kernel_rfl⟩ (fun _=>Nat.le_of_ble_eq_true (by kernel_rfl)) (fun x r h=>Iw x.1 x.2 r h)
noncomputable def sj:=ez (dX (gg (eI .i64)) (dJ (gg (eI .i64)))) (fun x:(List Int)×(List Int)=>l8 x.1 x.2) (fun r:(List Int) =>.fresh 3 1 r.length (ab (eI .i64) r))
theorem mD (p0:(List Int)) (p1:(List Int)):sj none [.sl false false p0.length (ab (eI .i64) p0),.sl false false p1.length (ab (eI .i64) p1)]=(l8 p0 p1).map fun r:(List Int)=>(.fresh 3 1 r.length (ab (eI .i64) r),none):=aE _ _ _ (p0,p1)
noncomputable def sD:Env:=(Am.ext aT 163 true oW)
theorem Ko:bM Tryz.prog sD:=(bM.none.add CG true)
theorem dR:type_of% (ai @w<|@sD.eq_1):=⟨@w,@sD.eq_1⟩
theorem NN (p0:(List Int)) (p1:(List Int)) (r:(List Int)) (hh:l8 p0 p1=some r):aQ (.fresh 3 1) tab sD FU Tryz.f164 none [.sl false false p0.length (ab (eI .i64) p0),.sl false false p1.length (ab (eI .i64) p1)]=some (.fresh 3 1 r.length (ab (eI .i64) r),none):=by
 refine aw rfl Tryz.ntmps164 Tryz.results164 ?_
 unfold l8 at hh
 obtain⟨x1,hx1,hh⟩:=ae hh
 obtain⟨q2a,q2b,q2c,q2d,q2e⟩:=mk_one (eI .i64) hx1
 simp only[bY]at q2d
 try simp only[dR,seval,-Int.reduceToNat,q2a,q2b,q2c,q2d,q2e]
 obtain⟨o20,ho20,hh⟩:=ae hh
 refine ax (fun s t H e=>match s with|(s20a,l5a)=>∃v5a:Nat,t 1=.sl false false p1.length (ab (eI .i64) p1)∧t 5=.buf 5 v5a 1 0 (l5a).length∧t 18=.sl false false p0.length (ab (eI .i64) p0)∧t 19=.int .i64 (p0.length:Int)∧t 20=.int .i64 s20a∧H 5=some ⟨v5a,3,ab (eI .i64) l5a,false,true,false⟩) (fun o x t H e=>match o with|l5ax=>x=.exit 0∧∃v5ax:Nat,t 5=.buf 5 v5ax 1 0 (l5ax).length∧H 5=some ⟨v5ax,3,ab (eI .i64) l5ax,false,true,false⟩) ho20 ?_ ?_ ?_
 ·refine⟨1,?_,?_,?_,?_,?_,?_⟩
  all_goals first|rfl|(simp only[dR,seval,-Int.reduceToNat,q2a,q2b,q2c,q2d,q2e]<;>rfl)
 ·rintro⟨s20a,l5a⟩ t H e ⟨v5a,Za⟩ c hh
  simp only[pr]at hh
  try simp only[dR,seval,-Int.reduceToNat,q2a,q2b,q2c,q2d,q2e,Za]
  refine sp aj hh (fun _ hh =>?_) (fun _ hh =>?_)
  ·obtain⟨x22,hx22,hh⟩:=ae hh
   have ax22:=bT (eI .i64) hx22
   simp only[bY]at ax22
   try simp only[dR,seval,-Int.reduceToNat,q2a,q2b,q2c,q2d,q2e,Za,ax22]
   obtain⟨o29,ho29,hh⟩:=ae hh
   refine ax (fun s t H e=>match s with|(s8c,s27c,l5c)=>∃v5c:Nat,t 1=.sl false false p1.length (ab (eI .i64) p1)∧t 5=.buf 5 v5c 1 0 (l5c).length∧t 6=.int .i64 s20a∧t 7=.int .i64 x22∧t 8=.int .i64 s8c∧t 18=.sl false false p0.length (ab (eI .i64) p0)∧t 19=.int .i64 (p0.length:Int)∧t 20=.int .i64 s20a∧t 25=.sl false false p1.length (ab (eI .i64) p1)∧t 26=.int .i64 (p1.length:Int)∧t 27=.int .i64 s27c∧H 5=some ⟨v5c,3,ab (eI .i64) l5c,false,true,false⟩) (fun o x t H e=>match o with|(s8cx,l5cx)=>x=.exit 2∧∃v5cx:Nat,t 1=.sl false false p1.length (ab (eI .i64) p1)∧t 5=.buf 5 v5cx 1 0 (l5cx).length∧t 6=.int .i64 s20a∧t 8=.int .i64 s8cx∧t 18=.sl false false p0.length (ab (eI .i64) p0)∧t 19=.int .i64 (p0.length:Int)∧t 20=.int .i64 s20a∧H 5=some ⟨v5cx,3,ab (eI .i64) l5cx,false,true,false⟩) ho29 ?_ ?_ ?_
   ·refine⟨v5a,?_,?_,?_,?_,?_,?_,?_,?_,?_,?_,?_,?_⟩
    all_goals first|rfl|(simp only[dR,seval,-Int.reduceToNat,q2a,q2b,q2c,q2d,q2e,Za,ax22]<;>rfl)
   ·rintro⟨s8c,s27c,l5c⟩ t H e ⟨v5c,Zc⟩ c hh
    simp only[pt]at hh
    try simp only[dR,seval,-Int.reduceToNat,q2a,q2b,q2c,q2d,q2e,ax22,Zc]
    refine sp aj hh (fun _ hh =>?_) (fun _ hh =>?_)
    ·obtain⟨x31,hx31,hh⟩:=ae hh
     have ax31:=bT (eI .i64) hx31
     simp only[bY]at ax31
     obtain⟨x32,hx32,hh⟩:=ae hh
     have ax32:=bT (eI .i64) hx32
     simp only[bY]at ax32
     obtain⟨x33,hx33,hh⟩:=ae hh
     have q34:=p7 hx33
     have ax32:=bT (eI .i64) hx32
     simp only[bY]at ax32
     have p35:=nV (eI .i64) (x':=ot .and .i64 (IntKind.i64.wrap ((IntKind.i64.wrap (x32+(IntKind.i64.wrap (x22*x31))))+s8c)) 1048575) (fo:=0) (cs:=[.int .i64 (ot .and .i64 (IntKind.i64.wrap ((IntKind.i64.wrap (x32+(IntKind.i64.wrap (x22*x31))))+s8c)) 1048575)]) hx32 rfl (Nat.le_of_ble_eq_true rfl)
     simp only[bY,Nat.add_zero]at p35
     have up35:=p35
     simp only[putCells,List.length_cons,List.length_nil,Nat.zero_add,Nat.reduceAdd]at up35
     cases hh
     try simp only[dR,seval,-Int.reduceToNat,q2a,q2b,q2c,q2d,q2e,ax22,Zc,ax31,ax32,q34,ax32,p35,up35]
     refine jg ?_
     refine⟨v5c,?_,?_,?_,?_,?_,?_,?_,?_,?_,?_,?_,?_⟩
     all_goals first|rfl|(simp only[dR,seval,-Int.reduceToNat,q2a,q2b,q2c,q2d,q2e,ax22,Zc,ax31,ax32,q34,ax32,p35,up35]<;>rfl)
    ·cases hh
     try simp only[dR,seval,-Int.reduceToNat,q2a,q2b,q2c,q2d,q2e,ax22,Zc]
     refine kl ?_
     refine⟨rfl,⟨v5c,?_,?_,?_,?_,?_,?_,?_,?_⟩⟩
     all_goals first|rfl|(simp only[dR,seval,-Int.reduceToNat,q2a,q2b,q2c,q2d,q2e,ax22,Zc]<;>rfl)
   ·rintro x t H e hx
    rcases o29 with⟨s8cx,l5cx⟩
    dsimp only at hx hh
    obtain⟨rfl,⟨v5cx,Zcx⟩⟩:=hx
    obtain⟨x36,hx36,hh⟩:=ae hh
    have ax36:=bT (eI .i64) hx36
    simp only[bY]at ax36
    have ax36:=bT (eI .i64) hx36
    simp only[bY]at ax36
    have p37:=nV (eI .i64) (x':=IntKind.i64.wrap (x36+s8cx)) (fo:=0) (cs:=[.int .i64 (IntKind.i64.wrap (x36+s8cx))]) hx36 rfl (Nat.le_of_ble_eq_true rfl)
    simp only[bY,Nat.add_zero]at p37
    have up37:=p37
    simp only[putCells,List.length_cons,List.length_nil,Nat.zero_add,Nat.reduceAdd]at up37
    cases hh
    try simp only[dR,seval,-Int.reduceToNat,q2a,q2b,q2c,q2d,q2e,ax22,Zcx,ax36,ax36,p37,up37]
    refine jg ?_
    refine⟨v5cx,?_,?_,?_,?_,?_,?_⟩
    all_goals first|rfl|(simp only[dR,seval,-Int.reduceToNat,q2a,q2b,q2c,q2d,q2e,ax22,Zcx,ax36,ax36,p37,up37]<;>rfl)
  ·cases hh
   try simp only[dR,seval,-Int.reduceToNat,q2a,q2b,q2c,q2d,q2e,Za]
   refine kl ?_
   refine⟨rfl,⟨v5a,?_,?_⟩⟩
   all_goals first|rfl|(simp only[dR,seval,-Int.reduceToNat,q2a,q2b,q2c,q2d,q2e,Za]<;>rfl)
 ·rintro x t H e hx
  obtain⟨l5ax,rfl⟩:∃z,z=o20:=⟨_,rfl⟩
  dsimp only at hx hh
  obtain⟨rfl,⟨v5ax,Zax⟩⟩:=hx
  have i38:=Ge [] [] l5ax
  try simp only[List.nil_append,List.append_nil,List.length_nil,aF,List.length_set,bY]at i38
  obtain⟨r39,hr39,hh⟩:=ae hh
  cases hh
  try simp only[dR,seval,-Int.reduceToNat,q2a,q2b,q2c,q2d,q2e,Zax,i38,hr39]
theorem Bg:bI Tryz.prog 164 sj:=bI.of (mode:=(.fresh 3 1)) tok Ko mixed Tryz.func164 (by kernel_rfl) ⟨by kernel_rfl,by kernel_rfl⟩ (fun _=>Nat.le_of_ble_eq_true (by kernel_rfl)) (fun x r h=>NN x.1 x.2 r h)
noncomputable def mI:=Ow 3 (eI .i64) (dX (gg (eI .i64)) (dJ (aI .i64))) (fun (l:(List Int)) (x:(List Int)×Int)=>eA l x.1 x.2) (fun r:Int =>.clean (.int .i64 r))
theorem Bq (pre post:List D) (p0:(List Int)) (p1:(List Int)) (p2:Int):mI (some (.buf 0 0 1 pre.length p0.length,⟨0,3,pre++(ab (eI .i64) p0++post),false,true,false⟩)) [.sl false false p1.length (ab (eI .i64) p1),.int .i64 p2]=(eA p0 p1 p2).map fun r=>(.clean (.int .i64 r.2),some ⟨0,3,pre++(ab (eI .i64) r.1++post),false,true,false⟩):=Bb _ _ _ _ _ pre post p0 (p1,p2)
end Go.Proofs.YtpkahnkoecbndaaGreatDoor.Am
