/- Part of a proof, made small by a program (wip/mini.py). -/
import Derived.Test.YtpkahnkoecbndaaGreatDoorWc
namespace Go.Proofs.YtpkahnkoecbndaaGreatDoor.Am
open Go.RowKit Go.Proofs.YtpkahnkoecbndaaGreatDoor.P Go.Shelf
set_option linter.unusedSimpArgs false
set_option linter.unusedVariables false
set_option maxHeartbeats 4000000 in
set_option maxRecDepth 100000 in
theorem WA (b o c:Nat) (l:List Int) (w:World) (hb:b<w.heap.size) (hc:∀j,j<l.length→w.cell? ⟨b,o+j,none⟩=some (.int .i64 (l.getD j 0))) (hall:∀x∈l,-9223372036854775808≤x∧x≤9223372036854775807) (hreach:l.length*8≤140737488351232) (hsize:(mD l).length≤140737488355328)
  (ht:∀b,rn=some b→∃ty fr,w.heap[b]? = some (.cells mA ty fr)) (htl:∀b,rn=some b→b<w.heap.size) :
  Calls Tryz.prog 93 #[.slice (some ⟨b,o,none⟩) l.length c,.func (.func 94) #[] #[]] w fun e w'=>e=.returned (.string ⟨(mD l).toArray⟩)∧Below w.heap.size w w':=by
 have htk:∀w',Below w.heap.size w w'→∀b,rn=some b→∃ty fr,w'.heap[b]? = some (.cells mA ty fr):=fun w' hbw b hb=>by
  obtain⟨ty,fr,h⟩:=ht b hb
  exact⟨ty,fr,(hbw.block b (htl b hb)).trans h⟩
 have hn0 : -9223372036854775808≤(l.length:Int):=by omega
 have hn1:(l.length:Int)≤9223372036854775807:=by omega
 have hB0:Below w.heap.size w (w.alloc (.cells #[.pointer none,.slice none 0 0] 150)):=(Below.refl _ w).alloc (Nat.le_refl _) _
 have hsz:=vx l.length hn0 hn1
 have e1:BP l.length++⟨#[91]⟩=⟨(Lib.itoa l.length++[91]).toArray⟩:=Az (Lib.itoa l.length) [91]
 have hnl:(mD l).length=(Lib.itoa l.length).length+1+(iF l).length+1:=by simp[mD];omega
 go_enter Tryz.func93,Tryz.ntmps93
 have hI0:Lib.IsBuilder 150 5 w.heap.size w.heap.size (Lib.byteCells []) (w.alloc (.cells #[.pointer none,.slice none 0 0] 150)):=NN w
 go_wp2_with (first
  | (go_at_call 121;refine (Rw l.length _ hn0 hn1 (htk _ hB0)).mono ?_;rintro e w1 ⟨rfl,hb1⟩;have hI1:=EX hI0 hb1;have hz1:w.heap.size≤w1.heap.size:=Nat.le_trans hB0.size hb1.size)
  | (go_at_call 120;refine (ML w.heap.size w.heap.size [] (Lib.itoa l.length++[91]) _ hI1 (by simp only[List.length_nil,List.length_append,List.length_cons];omega) hz1).mono ?_;rintro e w2 ⟨v2,rfl,hB2,hb2⟩))
 have hb20:Below w.heap.size w w2:=(hB0.trans (hb1.mono hB0.size)).trans hb2
 clear hI1 hI0 hB0 hb1 hb2
 go_loopw [15] (fun i wr=>∃k:Nat,k≤l.length∧i=.int .i64 k∧Lib.BuilderAt 150 5 w.heap.size w.heap.size (.pointer (some ⟨w.heap.size,0,none⟩)) (Lib.byteCells ((Lib.itoa l.length++[91])++iF (l.take k))) wr∧Below w.heap.size w wr)
  (fun i _=>l.length-(intOf i).toNat)
 case atStart=>exact⟨0,Nat.zero_le _,rfl,by simpa [iF] using hB2,hb20⟩
 case round =>
  obtain⟨k,hk,rfl,hBk,hbk⟩:=hrel
  have hcx:k<l.length→wr.cell? ⟨b,o+k,none⟩=some (.int .i64 (l.getD k 0)):=fun h=>(hbk.cell (p:=⟨b,o+k,none⟩) hb).trans (hc k h)
  by_cases hlt:k<l.length
  ·have hcx':=hcx hlt
   have hx:=hall (l.getD k 0) (by rw[List.getD_eq_getElem?_getD,List.getElem?_eq_getElem hlt];exact List.getElem_mem hlt)
   have hnk:=TU l (k+1)
   rw[FI l hlt,List.length_append]at hnk
   have hnn:=FI l hlt
   generalize l.getD k 0=x at *
   go_wp2_with (first
    | (go_at_call 94;refine (Un x _ hx.1 hx.2 (htk _ hbk)).mono ?_;rintro e w3 ⟨rfl,hb3⟩;have hI3:=pb hBk hb3;have hz3:w.heap.size≤w3.heap.size:=Nat.le_trans hbk.size hb3.size)
    | (go_at_call 120;refine (ML w.heap.size w.heap.size ((Lib.itoa l.length++[91])++iF (l.take k)) (Lib.itoa x++[59]) _ (.inr hI3) (by simp only[List.length_append,List.length_cons,List.length_nil]at *;omega) hz3).mono ?_;rintro e w4 ⟨v4,rfl,hB4,hb4⟩))
   go_roundw
   case rel=>exact⟨k+1,by omega,by go_num,by rw[hnn,← List.append_assoc];exact hB4,(hbk.trans (hb3.mono hbk.size)).trans hb4⟩
   case measure=>simp[intOf];omega
  ·obtain rfl:k=l.length:=by omega
   have e3:(⟨((Lib.itoa l.length++[91])++iF l).toArray⟩:ByteArray)++⟨#[93]⟩=⟨(mD l).toArray⟩:=by
    rw[show (⟨#[93]⟩:ByteArray)=⟨([93]:List UInt8).toArray⟩ from rfl,Az]
    simp[mD]
   have hss:(⟨((Lib.itoa l.length++[91])++iF l).toArray⟩:ByteArray).size+1≤9223372036854775807:=by
    show ((Lib.itoa l.length++[91])++iF l).toArray.size+1≤_
    rw[List.size_toArray]
    simp only[List.length_append,List.length_cons,List.length_nil]
    omega
   rw[List.take_length]at hBk
   have hstr:=Ot w.heap.size w.heap.size _ wr (.inr hBk) hbk.size
   generalize (⟨((Lib.itoa l.length++[91])++iF l).toArray⟩:ByteArray)=S at *
   go_wp2_with (go_at_call 122;refine hstr.mono ?_;rintro e w5 ⟨rfl,hb5⟩)
   go_ret
   first|exact⟨rfl,hbk.trans hb5⟩|exact⟨by rw[← e3],hbk.trans hb5⟩
set_option maxHeartbeats 1000000 in
set_option maxRecDepth 100000 in
theorem WB (A:Option Addr) (c:Nat) (w:World) (ht:∀b,rn=some b→∃ty fr,w.heap[b]? = some (.cells mA ty fr)) (htl:∀b,rn=some b→b<w.heap.size) :
  Calls Tryz.prog 93 #[.slice A 0 c,.func (.func 94) #[] #[]] w fun e w'=>e=.returned (.string ⟨(mD []).toArray⟩)∧Below w.heap.size w w':=by
 have htk:∀w',Below w.heap.size w w'→∀b,rn=some b→∃ty fr,w'.heap[b]? = some (.cells mA ty fr):=fun w' hbw b hb=>by
  obtain⟨ty,fr,h⟩:=ht b hb
  exact⟨ty,fr,(hbw.block b (htl b hb)).trans h⟩
 have hB0:Below w.heap.size w (w.alloc (.cells #[.pointer none,.slice none 0 0] 150)):=(Below.refl _ w).alloc (Nat.le_refl _) _
 have hsz:=vx 0 (by decide) (by decide)
 have hll:=Lib.itoa_length_le 0 (by decide) (by decide)
 have e1:BP 0++⟨#[91]⟩=⟨(Lib.itoa 0++[91]).toArray⟩:=Az (Lib.itoa 0) [91]
 go_enter Tryz.func93,Tryz.ntmps93
 have hI0:Lib.IsBuilder 150 5 w.heap.size w.heap.size (Lib.byteCells []) (w.alloc (.cells #[.pointer none,.slice none 0 0] 150)):=NN w
 go_wp2_with (first
  | (go_at_call 121;refine (Rw 0 _ (by decide) (by decide) (htk _ hB0)).mono ?_;rintro e w1 ⟨rfl,hb1⟩;have hI1:=EX hI0 hb1;have hz1:w.heap.size≤w1.heap.size:=Nat.le_trans hB0.size hb1.size)
  | (go_at_call 120;refine (ML w.heap.size w.heap.size [] (Lib.itoa 0++[91]) _ hI1 (by simp only[List.length_nil,List.length_append,List.length_cons];omega) hz1).mono ?_;rintro e w2 ⟨v2,rfl,hB2,hb2⟩))
 have hb20:Below w.heap.size w w2:=(hB0.trans (hb1.mono hB0.size)).trans hb2
 clear hI1 hI0 hB0 hb1 hb2
 go_loopw [15] (fun i wr=>i=.int .i64 0∧wr=w2) (fun i _=>0)
 case atStart=>exact⟨rfl,rfl⟩
 case round =>
  obtain⟨rfl,rfl⟩:=hrel
  have e3:(⟨(Lib.itoa 0++[91]).toArray⟩:ByteArray)++⟨#[93]⟩=⟨(mD []).toArray⟩:=by
   rw[show (⟨#[93]⟩:ByteArray)=⟨([93]:List UInt8).toArray⟩ from rfl,Az]
   simp[mD,iF]
  have hss:(⟨(Lib.itoa 0++[91]).toArray⟩:ByteArray).size+1≤9223372036854775807:=by
   show (Lib.itoa 0++[91]).toArray.size+1≤_
   rw[List.size_toArray]
   simp only[List.length_append,List.length_cons,List.length_nil]
   omega
  have hstr:=Ot w.heap.size w.heap.size _ wr (.inr hB2) hb20.size
  rw[List.nil_append]at hstr
  generalize (⟨(Lib.itoa 0++[91]).toArray⟩:ByteArray)=S at *
  go_wp2_with (go_at_call 122;refine hstr.mono ?_;rintro e w5 ⟨rfl,hb5⟩)
  go_ret
  first|exact⟨rfl,hb20.trans hb5⟩|exact⟨by rw[← e3],hb20.trans hb5⟩
theorem TV:bM Tryz.prog 53 (eN (dR (iI (eI .i64))) NZ (fun r =>.clean (.str r))) :=
 Ud Tryz.func53 ⟨by kernel_rfl,by kernel_rfl⟩ fun l r hr w M u hu ht=>by
  unfold NZ at hr
  split at hr
  rotate_left
  ·cases hr
  rename_i hc
  cases hr
  have hu':RP w M (.sl false false l.length (ab (eI .i64) l)) u:=hu
  obtain⟨A,c,rfl,-,-,-,k4⟩:=FW hu'
  have hcall:Calls Tryz.prog 93 #[.slice A l.length c,.func (.func 94) #[] #[]] w fun e w'=>e=.returned (.string ⟨(mD l).toArray⟩)∧Below w.heap.size w w':=by
   by_cases hl:l=[]
   ·subst hl
    exact WB A c w (fun b hb=>(ht b hb).is) (fun b hb=>(ht b hb).lt)
   ·obtain⟨b,o,rfl,hb,hM,hcc⟩:=k4 hl
    exact WA b o c l w hb hcc hc.1 hc.2.1 hc.2.2 (fun b hb=>(ht b hb).is) (fun b hb=>(ht b hb).lt)
  generalize (⟨(mD l).toArray⟩:ByteArray)=S at *
  go_enter Tryz.func53,Tryz.ntmps53
  go_wp2_with (go_at_call 93;refine hcall.mono ?_;rintro e w1 ⟨rfl,hb1⟩)
  go_ret
  exact⟨rfl,hb1⟩
end Go.Proofs.YtpkahnkoecbndaaGreatDoor.Am
namespace Go.Proofs.YtpkahnkoecbndaaGreatDoor.Am
open Go.RowKit Go.Proofs.YtpkahnkoecbndaaGreatDoor.P
set_option linter.unusedSimpArgs false
set_option linter.unusedVariables false
set_option linter.unusedSectionVars false
noncomputable def pD {α β:Type} (E:jC α) (A:mo β) (F:List α→β→Option α):List D→List D→Option (List D):=fun ds us =>
 open Classical in if h:∃p:List α×β,ab E p.1=ds∧A.ds p.2=us then (F (Classical.choose h).1 (Classical.choose h).2).map E.cells else none
theorem Rp {α β:Type} (E:jC α) (A:mo β) (F:List α→β→Option α) (l:List α) (b:β):pD E A F (ab E l) (A.ds b)=(F l b).map E.cells:=by
 have h:∃p:List α×β,ab E p.1=ab E l∧A.ds p.2=A.ds b:=⟨(l,b),rfl,rfl⟩
 simp only[pD]
 rw[dif_pos h,sL E _ _ (Classical.choose_spec h).1,A.inj _ _ (Classical.choose_spec h).2]
theorem qK {α β:Type} {E:jC α} {A:mo β} {F:List α→β→Option α} {ds us cs:List D} (h:pD E A F ds us=some cs):∃l b x,ds=ab E l∧us=A.ds b∧F l b=some x∧cs=E.cells x:=by
 unfold pD at h
 split at h
 ·rename_i he
  obtain⟨h1,h2⟩:=Classical.choose_spec he
  rw[Option.map_eq_some_iff]at h
  obtain⟨x,h3,h4⟩:=h
  exact⟨_,_,x,h1.symm,h2.symm,h3,h4.symm⟩
 ·cases h
theorem IV {α β:Type} (E:jC α) {A:mo β} {F:List α→β→Option α} {B:Nat} {l z:List α} {b:β} (h:((F l b).bind fun x=>gC B l [x])=some z) :
  ∃cs,pD E A F (ab E l) (A.ds b)=some cs∧ab E l++cs=ab E z∧l.length+1=z.length∧z.length*B≤140737488355328:=by
 obtain⟨x,h1,h2⟩:=ae h
 obtain⟨q1,q2,q3,q4⟩:=ey E h2
 exact⟨E.cells x,by rw[Rp,h1];rfl,q2,q1,q4⟩
section
variable {P:Program} {w:World}
theorem FZ (L:Nat→Prop) (w:World) (o:Obj):cl L w (w.alloc o):=⟨rfl,rfl,rfl,by simp,fun k hk _=>heap_alloc_old w o hk⟩
theorem CU {L:Nat→Prop} {g:Nat} (hg:L g) (cs:Array Value):cl L w (w.setRow g cs):=⟨rfl,rfl,rfl,by simp[World.setRow],fun k _ hk=>by
 simp only[World.setRow,Array.getElem?_modify]
 rw[if_neg (fun h:g=k=>hk (h ▸ hg))]⟩
theorem DG (t ty el:Nat) {φ:Ty} (hd:P.underlying t=some (.slice el)) (hφ:dx P el φ) (hpos:0<φ.size) (hz0:φ.zero.length=φ.size) (hby:0<φ.bytes) {go:Option (Nat×Nat)} {u:Value} {n:Nat} {cs:List Value} (hs:xC w el φ.size go u n cs) (hcs:cs.length=n*φ.size)
  (b:Addr) (c:Nat) (us:List Value) (hul:us.length=φ.size) (hus:∀j u,us[j]? = some u→w.cell? (b.add j)=some u) (h1:∀u∈us,u.oneCell'=true) (hb:(n+1)*φ.bytes≤140737488355328) :
  ∃(g:Nat×Nat) (k:Nat) (arr:Array Value) (w':World),(Builtin.append_ #[t,t] ty #[u,.slice (some b) 1 c]).run P w=.ok (.slice (some ⟨g.1,g.2,none⟩) (n+1) k) w'∧cl (mn go) w w'∧(w.heap.size≤g.1∨mn go g.1)∧w'.heap[g.1]? = some (.cells arr el (0,0)) ∧
   n+1≤k∧k≤maxLen∧k*φ.size+g.2=arr.size∧∀(j:Nat) x,(cs++us)[j]? = some x→arr[g.2+j]? = some x:=by
 have h63:n+1≤maxLen:=by
  have:=Nat.le_mul_of_pos_right (n+1) hby
  unfold maxLen
  omega
 have hul1:us.length=1*φ.size:=by omega
 have new:∀(A:Option Addr) (cap:Nat),u=.slice A n cap→cap<n+1→(A=none→n=0∧cap=0)→(∀ad,A=some ad→∀j u,cs[j]? = some u→w.cell? (ad.add j)=some u) →
   ∃(g:Nat×Nat) (k:Nat) (arr:Array Value) (w':World),(Builtin.append_ #[t,t] ty #[u,.slice (some b) 1 c]).run P w=.ok (.slice (some ⟨g.1,g.2,none⟩) (n+1) k) w'∧cl (mn go) w w'∧(w.heap.size≤g.1∨mn go g.1)∧w'.heap[g.1]? = some (.cells arr el (0,0)) ∧
   n+1≤k∧k≤maxLen∧k*φ.size+g.2=arr.size∧∀(j:Nat) x,(cs++us)[j]? = some x→arr[g.2+j]? = some x:=by
  intro A cap hu hcap hA hxs
  subst hu
  obtain⟨k,vs,r1,r2,r3,r4,r5⟩:=tw (P:=P) (w:=w) t ty el hd hφ hpos hz0 A n cap cs hcs hxs hA b 1 c us hul1 hus (by omega) h63 hb
  refine⟨(w.heap.size,0),k,vs,_,r1,⟨rfl,rfl,rfl,by simp,fun k hk _=>heap_alloc_old w.drew _ hk⟩,.inl (Nat.le_refl _),heap_alloc_new w.drew _,r2,r3,by omega,fun j x hj =>?_⟩
  rw[← r5]at hj
  rw[List.getElem?_take]at hj
  split at hj
  ·simpa using hj
  ·cases hj
 rcases hs with⟨g,c0,arr,hgo,hu,hh,hsz,hn,hmx,hcell⟩|⟨hgo,rfl,rfl,A,hu⟩
 ·by_cases hroom:n+1≤c0
  ·subst hu
   have hfit:g.2+n*φ.size+us.length≤arr.size:=by
    have:=Nat.mul_le_mul_right φ.size hroom
    rw[Nat.add_mul]at this
    omega
   have hr:=u5 (P:=P) (w:=w) t ty el hd hφ g.1 g.2 n c0 arr hh b 1 c us hul1 hus h1 hroom hfit
   refine⟨g,c0,_,_,hr,CU ⟨g,hgo,rfl⟩ _,.inr ⟨g,hgo,rfl⟩,setRow_heap w g.1 arr _ el (0,0) hh,hroom,hmx,?_,fun j x hj =>?_⟩
   ·simp only[List.size_toArray,List.length_append,List.length_take,List.length_drop,Array.length_toList]
    omega
   ·have hjl:=(List.getElem?_eq_some_iff.1 hj).1
    rw[List.length_append]at hjl
    simp only[List.getElem?_toArray]
    rw[List.append_assoc]
    by_cases hjn:j<cs.length
    ·rw[List.getElem?_append_left hjn]at hj
     have:=hcell j x hj
     rw[List.getElem?_append_left (by simp;omega),List.getElem?_take,if_pos (by omega)]
     simpa using this
    ·rw[List.getElem?_append_right (by omega)]at hj
     rw[List.getElem?_append_right (by simp;omega),List.getElem?_append_left (by simp;omega),← hj]
     congr 1
     simp
     omega
  ·exact new (some ⟨g.1,g.2,none⟩) c0 hu (by omega) (fun h=>by cases h) (fun ad had j u hj=>by
    cases had
    have:=hcell j u hj
    have hlt:=(Array.getElem?_eq_some_iff.1 this).1
    rw[lh,bp hh hlt,Array.getD_eq_getD_getElem?,this]
    rfl)
 ·exact new A 0 hu (by omega) (fun _=>⟨rfl,rfl⟩) (fun ad _ j u hj=>by simp at hj)
theorem CA {ops:Array Oper} {o:Oper} {a:Act} {K:Act→World→Prop} {Q:Exit→Act→World→Prop} {X:Prop} (hgd:o.guard=none) (s x:Operand) (t el:Nat)
  (ho:o.op=.call { callee := .builtin .append,args:=#[s,x],argTypes:=#[t,t] }) {φ:Ty} (hd:P.underlying t=some (.slice el)) (hφ:dx P el φ) (hpos:0<φ.size) (hz0:φ.zero.length=φ.size) (hby:0<φ.bytes)
  {go:Option (Nat×Nat)} {u:Value} {n:Nat} {cs:List Value} (hsv:a.eval s=u) (hs:xC w el φ.size go u n cs) (hcs:cs.length=n*φ.size)
  (b:Addr) (c:Nat) (us:List Value) (hx:a.eval x=.slice (some b) 1 c) (hul:us.length=φ.size) (hus:∀j u,us[j]? = some u→w.cell? (b.add j)=some u) (h1:∀u∈us,u.oneCell'=true) (hb:(n+1)*φ.bytes≤140737488355328)
  (h:∀(g:Nat×Nat) (k:Nat) (arr:Array Value) (w':World),cl (mn go) w w'→(w.heap.size≤g.1∨mn go g.1)→w'.heap[g.1]? = some (.cells arr el (0,0)) →
   n+1≤k→k≤maxLen→k*φ.size+g.2=arr.size→(∀(j:Nat) x,(cs++us)[j]? = some x→arr[g.2+j]? = some x)→K (a.put o.dst (.slice (some ⟨g.1,g.2,none⟩) (n+1) k)) w') :
  if Region.wanted o (yielded ops a.tmps)=true then Oper.wp P o a w K Q else X:=by
 have hw:Region.wanted o (yielded ops a.tmps)=true:=by simp[Region.wanted,hgd]
 rw[if_pos hw]
 obtain⟨g,k,arr,w',hr,q1,q2,q3,q4,q5,q6,q7⟩:=DG (P:=P) t o.type el hd hφ hpos hz0 hby hs hcs b c us hul hus h1 hb
 unfold Oper.wp execOp
 simp only[ho,resolve,invoke,builtin,Sem.run_bind,Sem.run_pure,Result.andThen_ok,List.map_toArray,List.map_cons,List.map_nil,hsv,hx,hr]
 exact h g k arr w' q1 q2 q3 q4 q5 q6 q7
theorem xC.later {ty k:Nat} {go:Option (Nat×Nat)} {u:Value} {n:Nat} {cs:List Value} {w':World} (hs:xC w ty k go u n cs) (hb:cl (fun _=>False) w w'):xC w' ty k go u n cs:=by
 rcases hs with⟨g,c0,arr,hgo,hu,hh,q⟩|q
 ·exact .inl ⟨g,c0,arr,hgo,hu,(hb.block g.1 (Array.getElem?_eq_some_iff.1 hh).1 (fun h=>h)).trans hh,q⟩
 ·exact .inr q
end
def kp (gy:Nat×Nat) (ya:Array Value) (ty:Nat) (go:Option (Nat×Nat)) (n el size:Nat) (cs:List Value) (w:World) (e:Ending) (w':World):Prop :=
 e=.returned (.int .i64 (n:Int))∧cl (fun b=>b=gy.1∨mn go b) w w' ∧
  ∃(g:Nat×Nat) (c:Nat) (arr:Array Value),(w.heap.size≤g.1∨mn go g.1)∧w'.heap[gy.1]? = some (.cells (ya.setIfInBounds gy.2 (.slice (some ⟨g.1,g.2,none⟩) (n+1) c)) ty (0,0))∧w'.heap[g.1]? = some (.cells arr el (0,0)) ∧
   n+1≤c∧c≤maxLen∧c*size+g.2=arr.size∧∀(j:Nat) x,cs[j]? = some x→arr[g.2+j]? = some x
theorem AA (w:World) (o o':Obj):cl (fun _=>False) w ((w.alloc o).alloc o').drew:=⟨rfl,rfl,rfl,by simp;omega,fun k hk _=>(heap_alloc_old (w.alloc o) o' (by simp;omega)).trans (heap_alloc_old w o hk)⟩
theorem kp.base {gy:Nat×Nat} {ya:Array Value} {ty:Nat} {go:Option (Nat×Nat)} {n el size:Nat} {cs:List Value} {w wA w':World} {e:Ending} (hA:cl (fun _=>False) w wA) (h:kp gy ya ty go n el size cs wA e w'):kp gy ya ty go n el size cs w e w':=by
 obtain⟨h1,h2,g,c,arr,h3,h4⟩:=h
 exact⟨h1,cl.trans (L:=fun b=>b=gy.1∨mn go b) ⟨hA.os,hA.tape,hA.output,hA.size,fun k hk _=>hA.block k hk (fun h=>h)⟩ h2 (fun x hx _=>hx),g,c,arr,h3.imp (fun h=>Nat.le_trans hA.size h) (fun h=>h),h4⟩
theorem u6 (w:World) (a:Addr) (u:Value) (k:Nat) (h:k≠a.block):(w.setCell a u).heap[k]? = w.heap[k]?:=by
 simp only[World.setCell,Array.getElem?_modify]
 rw[if_neg (Ne.symm h)]
theorem Pg {w wA w2:World} {gy g:Nat×Nat} {ya arr:Array Value} {ty el size n k:Nat} {go:Option (Nat×Nat)} {cs:List Value} (hy:w.heap[gy.1]? = some (.cells ya ty (0,0))) (hul:gy.2<ya.size) (hne:∀g,go=some g→g.1≠gy.1) (hA:cl (fun _=>False) w wA) (q1:cl (mn go) wA w2)
  (q2:wA.heap.size≤g.1∨mn go g.1) (q3:w2.heap[g.1]? = some (.cells arr el (0,0))) (q4:n+1≤k) (q5:k≤maxLen) (q6:k*size+g.2=arr.size) (q7:∀(j:Nat) x,cs[j]? = some x→arr[g.2+j]? = some x) (hk0:w2.heap[gy.1]? = some (.cells ya ty (0,0))) :
  kp gy ya ty go n el size cs w (.returned (.int .i64 (n:Int))) (w2.setCell ⟨gy.1,gy.2,none⟩ (.slice (some ⟨g.1,g.2,none⟩) (n+1) k)):=by
 obtain⟨hyl,-⟩:=Array.getElem?_eq_some_iff.1 hy
 have hgg:g.1≠gy.1:=by
  rcases q2 with q2|⟨g0,hg0,he⟩
  ·have:=hA.size;omega
  ·rw[he];exact hne g0 hg0
 have hb:cl (fun b=>b=gy.1∨mn go b) w w2:=cl.trans (L:=fun b=>b=gy.1∨mn go b) (L':=mn go) ⟨hA.os,hA.tape,hA.output,hA.size,fun k hk _=>hA.block k hk (fun h=>h)⟩ q1 (fun x hx _ =>.inr hx)
 refine⟨rfl,⟨hb.os,hb.tape,hb.output,by simpa [World.setCell] using hb.size,fun b hb1 hb2 =>?_⟩,g,k,arr,?_,?_,?_,q4,q5,q6,q7⟩
 ·rw[u6 _ _ _ _ (fun h=>hb2 (.inl h))]
  exact hb.block b hb1 hb2
 ·exact q2.imp (fun h=>Nat.le_trans hA.size h) (fun h=>h)
 ·simp[World.setCell,Array.getElem?_modify,hk0]
 ·rw[u6 _ _ _ _ hgg];exact q3
set_option maxHeartbeats 2000000 in
set_option maxRecDepth 100000 in
theorem Hu (w:World) (gy:Nat×Nat) (ya:Array Value) (ty:Nat) (go:Option (Nat×Nat)) (u:Value) (n:Nat) (cs:List Value) (s:ByteArray) (v1 v2 v3 v4:Int) (hy:w.heap[gy.1]? = some (.cells ya ty (0,0))) (hu:ya[gy.2]? = some u)
  (hs:xC w 87 5 go u n cs) (hne:∀g,go=some g→g.1≠gy.1) (hcs:cs.length=n*5) (hb:(n+1)*48≤140737488355328) :
  Calls Tryz.prog 64 #[.pointer (some ⟨gy.1,gy.2,none⟩),.agg #[.string s,.int .i64 v1,.int .i64 v2,.int .i64 v3,.int .i64 v4]] w (kp gy ya ty go n 87 5 (cs++[.string s,.int .i64 v1,.int .i64 v2,.int .i64 v3,.int .i64 v4]) w):=by
 obtain⟨hyl,-⟩:=Array.getElem?_eq_some_iff.1 hy
 obtain⟨hul,hue⟩:=Array.getElem?_eq_some_iff.1 hu
 have hcell:∀w':World,w'.heap[gy.1]? = w.heap[gy.1]?→w'.cell? ⟨gy.1,gy.2,none⟩=some u∧w'.frozen? ⟨gy.1,gy.2,none⟩=false:=by
  intro w' h
  rw[hy]at h
  refine⟨?_,?_⟩
  ·rw[bp h hul,Array.getD_eq_getD_getElem?,hu];rfl
  ·simp[World.frozen?,h]
 go_enter Tryz.func64,Tryz.ntmps64
 go_wp2
 generalize hW:w.alloc (.cells #[.string s,.int .i64 v1,.int .i64 v2,.int .i64 v3,.int .i64 v4] 87)=W
 have hWs:W.heap.size=w.heap.size+1:=by rw[← hW];simp
 have hWb:cl (fun _=>False) w W:=by rw[← hW];exact FZ _ w _
 have hWn:W.heap[w.heap.size]? = some (.cells #[.string s,.int .i64 v1,.int .i64 v2,.int .i64 v3,.int .i64 v4] 87):=by rw[← hW];exact heap_alloc_new w _
 have c0:W.drew.cell? ⟨gy.1,gy.2,none⟩=some u:=(hcell W.drew (hWb.block gy.1 hyl (fun h=>h))).1
 have c1:∀o,(W.drew.alloc o).cell? ⟨gy.1,gy.2,none⟩=some u:=fun o=>(hcell (W.drew.alloc o) ((heap_alloc_old W.drew o (by show gy.1<W.heap.size;omega)).trans (hWb.block gy.1 hyl (fun h=>h)))).1
 have c2:∀o,(W.alloc o).drew.cell? ⟨gy.1,gy.2,none⟩=some u:=c1
 have b0:W.drew.cell? ⟨w.heap.size,0,none⟩=some (.string s):=bp (w:=W.drew) hWn (by simp)
 have b1:W.drew.cell? ⟨w.heap.size,1,none⟩=some (.int .i64 v1):=bp (w:=W.drew) hWn (by simp)
 have b2:W.drew.cell? ⟨w.heap.size,2,none⟩=some (.int .i64 v2):=bp (w:=W.drew) hWn (by simp)
 have b3:W.drew.cell? ⟨w.heap.size,3,none⟩=some (.int .i64 v3):=bp (w:=W.drew) hWn (by simp)
 have b4:W.drew.cell? ⟨w.heap.size,4,none⟩=some (.int .i64 v4):=bp (w:=W.drew) hWn (by simp)
 generalize hO:Obj.cells #[.string s,.int .i64 v1,.int .i64 v2,.int .i64 v3,.int .i64 v4] 87=O at *
 have hbb:cl (fun _=>False) w (W.drew.alloc O):=hWb.trans (show cl (fun _=>False) W (W.drew.alloc O) from ⟨rfl,rfl,rfl,by simp,fun k hk _=>heap_alloc_old W.drew O hk⟩) (fun _ h _=>h)
 have hsA:=hs.later hbb
 have hnews:∀(j:Nat) x,([Value.string s,.int .i64 v1,.int .i64 v2,.int .i64 v3,.int .i64 v4]:List Value)[j]? = some x→(W.drew.alloc O).cell? ((⟨w.heap.size+1,0,none⟩:Addr).add j)=some x:=by
  intro j x hj
  have hn:(W.drew.alloc O).heap[w.heap.size+1]? = some (.cells #[.string s,.int .i64 v1,.int .i64 v2,.int .i64 v3,.int .i64 v4] 87):=by rw[hO,← hWs];exact heap_alloc_new W.drew _
  have hlt:=(List.getElem?_eq_some_iff.1 hj).1
  rw[lh,Nat.zero_add,bp hn (by simpa using hlt),Array.getD_eq_getD_getElem?]
  simp only[List.getElem?_toArray,hj,Option.getD_some]
 have hones:∀x∈([Value.string s,.int .i64 v1,.int .i64 v2,.int .i64 v3,.int .i64 v4]:List Value),x.oneCell'=true:=by
  intro x hx
  simp only[List.mem_cons,List.not_mem_nil,or_false]at hx
  rcases hx with rfl|rfl|rfl|rfl|rfl<;>rfl
 subst hO
 have hnot:¬mn go gy.1:=by rintro⟨g,hg,he⟩;exact hne g hg he.symm
 go_region_law (refine CA rfl (.tmp 10) (.tmp 12) 22 87 rfl Tryz.underlying22 U8 (by decide) rfl (by decide) rfl hsA hcs ⟨w.heap.size+1,0,none⟩ 1 _ rfl rfl hnews hones hb ?_;intro g k arr w2 q1 q2 q3 q4 q5 q6 q7;have hk0:w2.heap[gy.1]? = some (.cells ya ty (0,0)):=(q1.block gy.1 (Nat.lt_of_lt_of_le hyl hbb.size) hnot).trans ((hbb.block gy.1 hyl (fun h=>h)).trans hy);obtain⟨d0,d1⟩:=hcell w2 (hk0.trans hy.symm))
 all_goals go_wp2
 all_goals go_ret
 all_goals exact Pg hy hul hne hbb q1 q2 q3 q4 q5 q6 q7 hk0
set_option maxHeartbeats 4000000 in
set_option maxRecDepth 100000 in
theorem PL (w:World) (gy:Nat×Nat) (ya:Array Value) (ty:Nat) (go:Option (Nat×Nat)) (u:Value) (n:Nat) (cs:List Value) (i j:Nat) (s1 s2:ByteArray) (v1 v2 v3 v4 u1 u2 u3 u4:Int) (hy:w.heap[gy.1]? = some (.cells ya ty (0,0))) (hu:ya[gy.2]? = some u)
  (hs:xC w 87 5 go u n cs) (hne:∀g,go=some g→g.1≠gy.1) (hcs:cs.length=n*5) (hb:(n+1)*48≤140737488355328) (hi:i<n) (hj:j<n)
  (hx:∀q x,[Value.string s1,.int .i64 v1,.int .i64 v2,.int .i64 v3,.int .i64 v4][q]? = some x→cs[i*5+q]? = some x) (hz:∀q x,[Value.string s2,.int .i64 u1,.int .i64 u2,.int .i64 u3,.int .i64 u4][q]? = some x→cs[j*5+q]? = some x) :
  Calls Tryz.prog 66 #[.pointer (some ⟨gy.1,gy.2,none⟩),.int .i64 (i:Int),.int .i64 (j:Int)] w (kp gy ya ty go n 87 5 (cs++[.string ⟨#[]⟩,.int .i64 (IntKind.i64.wrap (v1+u1)),.int .i64 (IntKind.i64.wrap (v2+u2)),.int .i64 (i:Int),.int .i64 (j:Int)]) w):=by
 obtain⟨hyl,-⟩:=Array.getElem?_eq_some_iff.1 hy
 obtain⟨hul,hue⟩:=Array.getElem?_eq_some_iff.1 hu
 rcases hs with⟨g,c,arr,hgo,rfl,hh,hsz,hn,hmx,hcell⟩|⟨-,hn,-⟩
 rotate_left
 ·omega
 obtain⟨hgl,-⟩:=Array.getElem?_eq_some_iff.1 hh
 have ecel:∀w':World,(∀k,k<w.heap.size→w'.heap[k]? = w.heap[k]?)→w'.cell? ⟨gy.1,gy.2,none⟩=some (.slice (some ⟨g.1,g.2,none⟩) n c):=by
  intro w' hw
  rw[bp ((hw _ hyl).trans hy) hul,Array.getD_eq_getD_getElem?,hu];rfl
 have cel:∀w':World,(∀k,k<w.heap.size→w'.heap[k]? = w.heap[k]?)→∀(k:Nat) x,cs[k]? = some x→w'.cell? ⟨g.1,g.2+k,none⟩=some x:=by
  intro w' hw k x hk
  have:=hcell k x hk
  have hlt:=(Array.getElem?_eq_some_iff.1 this).1
  rw[bp ((hw _ hgl).trans hh) hlt,Array.getD_eq_getD_getElem?,this];rfl
 have w1:∀o k,k<w.heap.size→(w.alloc o).heap[k]? = w.heap[k]?:=fun o k hk=>heap_alloc_old w o hk
 have w2:∀o o' k,k<w.heap.size→((w.alloc o).alloc o').heap[k]? = w.heap[k]?:=fun o o' k hk=>(heap_alloc_old (w.alloc o) o' (by simp;omega)).trans (heap_alloc_old w o hk)
 have e0:=ecel w (fun _ _=>rfl)
 have e1:=fun o=>ecel (w.alloc o) (w1 o)
 have e2:=fun o o'=>ecel ((w.alloc o).alloc o') (w2 o o')
 have a0:∀w':World,(∀k,k<w.heap.size→w'.heap[k]? = w.heap[k]?)→w'.cell? ⟨g.1,g.2+i*5,none⟩=some (.string s1):=fun w' hw=>cel w' hw (i*5+0) _ (hx 0 _ rfl)
 have a0x:=a0 w (fun _ _=>rfl)
 have a0y:=fun o=>a0 (w.alloc o) (w1 o)
 have a0z:=fun o o'=>a0 ((w.alloc o).alloc o') (w2 o o')
 clear a0
 have a1:∀w':World,(∀k,k<w.heap.size→w'.heap[k]? = w.heap[k]?)→w'.cell? ⟨g.1,g.2+i*5+1,none⟩=some (.int .i64 v1):=fun w' hw=>cel w' hw (i*5+1) _ (hx 1 _ rfl)
 have a1x:=a1 w (fun _ _=>rfl)
 have a1y:=fun o=>a1 (w.alloc o) (w1 o)
 have a1z:=fun o o'=>a1 ((w.alloc o).alloc o') (w2 o o')
 clear a1
 have a2:∀w':World,(∀k,k<w.heap.size→w'.heap[k]? = w.heap[k]?)→w'.cell? ⟨g.1,g.2+i*5+2,none⟩=some (.int .i64 v2):=fun w' hw=>cel w' hw (i*5+2) _ (hx 2 _ rfl)
 have a2x:=a2 w (fun _ _=>rfl)
 have a2y:=fun o=>a2 (w.alloc o) (w1 o)
 have a2z:=fun o o'=>a2 ((w.alloc o).alloc o') (w2 o o')
 clear a2
 have a3:∀w':World,(∀k,k<w.heap.size→w'.heap[k]? = w.heap[k]?)→w'.cell? ⟨g.1,g.2+i*5+3,none⟩=some (.int .i64 v3):=fun w' hw=>cel w' hw (i*5+3) _ (hx 3 _ rfl)
 have a3x:=a3 w (fun _ _=>rfl)
 have a3y:=fun o=>a3 (w.alloc o) (w1 o)
 have a3z:=fun o o'=>a3 ((w.alloc o).alloc o') (w2 o o')
 clear a3
 have a4:∀w':World,(∀k,k<w.heap.size→w'.heap[k]? = w.heap[k]?)→w'.cell? ⟨g.1,g.2+i*5+4,none⟩=some (.int .i64 v4):=fun w' hw=>cel w' hw (i*5+4) _ (hx 4 _ rfl)
 have a4x:=a4 w (fun _ _=>rfl)
 have a4y:=fun o=>a4 (w.alloc o) (w1 o)
 have a4z:=fun o o'=>a4 ((w.alloc o).alloc o') (w2 o o')
 clear a4
 have b0:∀w':World,(∀k,k<w.heap.size→w'.heap[k]? = w.heap[k]?)→w'.cell? ⟨g.1,g.2+j*5,none⟩=some (.string s2):=fun w' hw=>cel w' hw (j*5+0) _ (hz 0 _ rfl)
 have b0x:=b0 w (fun _ _=>rfl)
 have b0y:=fun o=>b0 (w.alloc o) (w1 o)
 have b0z:=fun o o'=>b0 ((w.alloc o).alloc o') (w2 o o')
 clear b0
 have b1:∀w':World,(∀k,k<w.heap.size→w'.heap[k]? = w.heap[k]?)→w'.cell? ⟨g.1,g.2+j*5+1,none⟩=some (.int .i64 u1):=fun w' hw=>cel w' hw (j*5+1) _ (hz 1 _ rfl)
 have b1x:=b1 w (fun _ _=>rfl)
 have b1y:=fun o=>b1 (w.alloc o) (w1 o)
 have b1z:=fun o o'=>b1 ((w.alloc o).alloc o') (w2 o o')
 clear b1
 have b2:∀w':World,(∀k,k<w.heap.size→w'.heap[k]? = w.heap[k]?)→w'.cell? ⟨g.1,g.2+j*5+2,none⟩=some (.int .i64 u2):=fun w' hw=>cel w' hw (j*5+2) _ (hz 2 _ rfl)
 have b2x:=b2 w (fun _ _=>rfl)
 have b2y:=fun o=>b2 (w.alloc o) (w1 o)
 have b2z:=fun o o'=>b2 ((w.alloc o).alloc o') (w2 o o')
 clear b2
 have b3:∀w':World,(∀k,k<w.heap.size→w'.heap[k]? = w.heap[k]?)→w'.cell? ⟨g.1,g.2+j*5+3,none⟩=some (.int .i64 u3):=fun w' hw=>cel w' hw (j*5+3) _ (hz 3 _ rfl)
 have b3x:=b3 w (fun _ _=>rfl)
 have b3y:=fun o=>b3 (w.alloc o) (w1 o)
 have b3z:=fun o o'=>b3 ((w.alloc o).alloc o') (w2 o o')
 clear b3
 have b4:∀w':World,(∀k,k<w.heap.size→w'.heap[k]? = w.heap[k]?)→w'.cell? ⟨g.1,g.2+j*5+4,none⟩=some (.int .i64 u4):=fun w' hw=>cel w' hw (j*5+4) _ (hz 4 _ rfl)
 have b4x:=b4 w (fun _ _=>rfl)
 have b4y:=fun o=>b4 (w.alloc o) (w1 o)
 have b4z:=fun o o'=>b4 ((w.alloc o).alloc o') (w2 o o')
 clear b4
 clear hx hz ecel cel w1
 have w3:∀o o' k,k<w.heap.size→((w.alloc o).alloc o').drew.heap[k]? = w.heap[k]?:=w2
 have hi1:(0:Int)≤(i:Int):=by omega
 have hi2:(i:Int)<(n:Int):=by omega
 have hj1:(0:Int)≤(j:Int):=by omega
 have hj2:(j:Int)<(n:Int):=by omega
 go_enter Tryz.func66,Tryz.ntmps66
 go_wp2
 go_region
 all_goals (go_wp2_with (go_at_call 64;refine (Hu _ gy ya ty go _ n cs _ _ _ _ _ ((w3 _ _ _ hyl).trans hy) hu (xC.later (.inl ⟨g,c,arr,hgo,rfl,hh,hsz,hn,hmx,hcell⟩) (AA w _ _)) hne hcs hb).mono ?_;rintro e w' hp;obtain⟨rfl,hp2⟩:=kp.base (AA w _ _) hp))
 all_goals go_ret
 all_goals (simp only[← IntWalk.i64_left]at hp2;exact⟨rfl,hp2.1,hp2.2⟩)
section
variable {α:Type} (E:jC α) (mk:ByteArray→Int→Int→Int→Int→α) (hmk:∀s a b c d,E.cells (mk s a b c d)=[.str s,.int .i64 a,.int .i64 b,.int .i64 c,.int .i64 d]) (hall:∀x,∃s a b c d,x=mk s a b c d)
include hmk hall
theorem rq:E.size=5:=by
 rw[← E.len (mk ⟨#[]⟩ 0 0 0 0),hmk];rfl
theorem rp (x:α):∀d∈E.cells x,uQ d=true:=by
 obtain⟨s,a,b,c,d,rfl⟩:=hall x
 rw[hmk]
 intro y hy
 simp only[List.mem_cons,List.not_mem_nil,or_false]at hy
 rcases hy with rfl|rfl|rfl|rfl|rfl<;>rfl
theorem zm (l:List α):∀d∈ab E l,uQ d=true:=by
 induction l with
 | nil=>intro d hd;cases hd
 | cons x l ih =>
  intro d hd
  rcases List.mem_append.1 hd with h|h
  ·exact rp E mk hmk hall x d h
  ·exact ih d h
theorem Vg:Ao Tryz.prog 64 ⟨87,5,48,pD E (dR (dm E)) Ht⟩ where
 callable:=⟨_,Tryz.func64,by kernel_rfl,by kernel_rfl⟩
 pos:=Nat.zero_lt_succ 4
 flat ds us cs h:=by
  obtain⟨l,b,x,rfl,rfl,hx,rfl⟩:=qK (show pD E (dR (dm E)) Ht ds us=some cs from h)
  refine⟨zm E mk hmk hall l,fun d hd =>?_,rp E mk hmk hall x,by rw[E.len];exact rq E mk hmk hall⟩
  simp only[dR,List.mem_cons,List.not_mem_nil,or_false]at hd
  subst hd
  exact List.all_eq_true.2 (rp E mk hmk hall b)
 calls w gy ya ty go u n ds us cs hy hu hs hne hlen hsem hb:=by
  obtain⟨l,b,x,rfl,rfl,hx,rfl⟩:=qK (show pD E (dR (dm E)) Ht ds us=some cs from hsem)
  obtain rfl:b=x:=by simpa [Ht] using hx
  obtain⟨s,v1,v2,v3,v4,rfl⟩:=hall b
  have h:=Hu w gy ya ty go u n _ s v1 v2 v3 v4 hy hu hs hne (by simpa using hlen) hb
  have e1:(dR (dm E)).ds (mk s v1 v2 v3 v4)=[.agg [.str s,.int .i64 v1,.int .i64 v2,.int .i64 v3,.int .i64 v4]]:=by
   simp only[dR,Vf,hmk]
  rw[e1,hmk]
  refine h.mono fun e w' hp =>?_
  simpa [kp,zS] using hp
end
section
variable {α:Type} (E:jC α) (mk:ByteArray→Int→Int→Int→Int→α) (hmk:∀s a b c d,E.cells (mk s a b c d)=[.str s,.int .i64 a,.int .i64 b,.int .i64 c,.int .i64 d]) (hall:∀x,∃s a b c d,x=mk s a b c d) (val bl:α→Int) (hval:∀s a b c d,val (mk s a b c d)=a) (hbl:∀s a b c d,bl (mk s a b c d)=b)
include hmk hall hval hbl
theorem CC {l:List α} {i:Int} {s:ByteArray} {v1 v2 v3 v4:Int} (h:P.idx l i=some (mk s v1 v2 v3 v4)):0≤i∧i<l.length∧∀q x,[Value.string s,.int .i64 v1,.int .i64 v2,.int .i64 v3,.int .i64 v4][q]? = some x→((ab E l).map zS)[i.toNat*5+q]? = some x:=by
 have hb:=sW h
 have ha:=wJ E h
 rw[rq E mk hmk hall,hmk]at ha
 refine⟨hb.1,hb.2,fun q x hx =>?_⟩
 have hq:=(List.getElem?_eq_some_iff.1 hx).1
 simp only[List.length_cons,List.length_nil]at hq
 have h1:((ab E l).drop (i.toNat*5))[q]? = [D.str s,.int .i64 v1,.int .i64 v2,.int .i64 v3,.int .i64 v4][q]?:=by
  rw[ha,List.getElem?_append_left (by simpa using hq)]
 rw[List.getElem?_drop]at h1
 rw[List.getElem?_map,h1,← List.getElem?_map]
 exact hx
theorem T3:Ao Tryz.prog 66 ⟨87,5,48,pD E (dU (aI .i64) (dR (aI .i64))) (y5 mk val bl)⟩ where
 callable:=⟨_,Tryz.func66,by kernel_rfl,by kernel_rfl⟩
 pos:=Nat.zero_lt_succ 4
 flat ds us cs h:=by
  obtain⟨l,b,x,rfl,rfl,hx,rfl⟩:=qK (show pD E (dU (aI .i64) (dR (aI .i64))) (y5 mk val bl) ds us=some cs from h)
  refine⟨zm E mk hmk hall l,fun d hd =>?_,rp E mk hmk hall x,by rw[E.len];exact rq E mk hmk hall⟩
  simp only[dR,dU,XP,List.mem_cons,List.not_mem_nil,or_false]at hd
  rcases hd with rfl|rfl<;>rfl
 calls w gy ya ty go u n ds us cs hy hu hs hne hlen hsem hb:=by
  obtain⟨l,⟨i,j⟩,z,rfl,rfl,hz,rfl⟩:=qK (show pD E (dU (aI .i64) (dR (aI .i64))) (y5 mk val bl) ds us=some cs from hsem)
  unfold y5 at hz
  obtain⟨x,hx,hz⟩:=ae hz
  obtain⟨y,hy1,hz⟩:=ae hz
  simp only[Option.some.injEq]at hz
  subst hz
  obtain⟨s,v1,v2,v3,v4,rfl⟩:=hall x
  obtain⟨s2,u1,u2,u3,u4,rfl⟩:=hall y
  obtain⟨i1,i2,i3⟩:=CC E mk hmk hall val bl hval hbl hx
  obtain⟨j1,j2,j3⟩:=CC E mk hmk hall val bl hval hbl hy1
  have hn:l.length=n:=by
   rw[cL,rq E mk hmk hall]at hlen
   exact Nat.eq_of_mul_eq_mul_right (by decide) hlen
  have h:=PL w gy ya ty go u n _ i.toNat j.toNat s s2 v1 v2 v3 v4 u1 u2 u3 u4 hy hu hs hne (by simpa using hlen) hb (by omega) (by omega) i3 j3
  have ei:((i.toNat:Nat):Int)=i:=by omega
  have ej:((j.toNat:Nat):Int)=j:=by omega
  rw[ei,ej]at h
  rw[hmk,hval,hval,hbl,hbl]
  refine h.mono fun e w' hp =>?_
  simpa [kp,zS] using hp
end
set_option maxRecDepth 100000
noncomputable def Jg:List (String×DataW Unit):=[("math/bits.deBruijn32tab",Rows.laid_math_bits_deBruijn32tab),("math/bits.deBruijn64tab",Rows.laid_math_bits_deBruijn64tab),("internal/strconv.uint64pow10",Rows.laid_internal_strconv_uint64pow10)]
theorem Q6 (os:Os) (args:Array Value):laidMetH Tryz.prog Jg ((World.doorLaid Tryz.prog 400 os).forCall (fun _ _=>0) ⟨#[],args,[]⟩).memory :=
 laidMetH_of_parts3 (fuel:=8) (laidMet_of_run' 8 (by kernel_rfl) (by kernel_rfl)) (by kernel_rfl) (by kernel_rfl)
theorem TP:Rows.laid_internal_strconv_uint64pow10 (H:=Unit)=Lib.tabData .u64 Lib.pow10Tab:=by
 simp[Rows.laid_internal_strconv_uint64pow10,Lib.tabData,Lib.pow10Tab,List.range,List.range.loop]
theorem Ry {w:World} (h:laidMetH Tryz.prog Jg w):FX w (fun _=>False):=fun b hb=>by
 rw[MakeChecks.laidMetH_plain _ _ _ (by kernel_rfl)]at h
 have h3:laidMet Tryz.prog [("internal/strconv.uint64pow10",Rows.laid_internal_strconv_uint64pow10)] w:=h.tail.tail
 rw[TP]at h3
 have ht:Lib.TabIs Tryz.prog w "internal/strconv.uint64pow10" .u64 Lib.pow10Tab:=Lib.tabIs_of_head (g:=0) (t:=204) (e:=178) (n:=20) (by kernel_rfl) (by kernel_rfl) (by kernel_rfl) (by kernel_rfl) (by kernel_rfl) (by kernel_rfl) h3
 cases hb
 have hg:Tryz.prog.globalNamed "internal/strconv.uint64pow10" = some 0:=by kernel_rfl
 simp only[Lib.TabIs,World.var?,hg,Option.bind_some]at ht
 have hc:∃ty fr,w.heap[0]? = some (.cells mA ty fr):=by
  split at ht
  ·rename_i cs ty fr hcs
   refine⟨ty,fr,?_⟩
   rw[hcs]
   have e:cs=mA:=by
    have:=Option.some.inj ht
    rw[this]
    simp[Lib.pow10Tab,mA]
   rw[e]
  ·cases ht
 obtain⟨ty,fr,hc⟩:=hc
 exact⟨(Array.getElem?_eq_some_iff.1 hc).1,fun h=>h,ty,fr,hc⟩
end Go.Proofs.YtpkahnkoecbndaaGreatDoor.Am
namespace Go.Proofs.YtpkahnkoecbndaaGreatDoor.P
open Go.RowKit
set_option linter.unusedVariables false
structure ay where
 ah:Int
 aa:(List Int)
structure aT where
 cu:ay
 ct:ay
structure cr where
 bn:aT
 aM:aT
structure aB where
 ck:Int
 bG:cr
structure eP where
 aZ:(List ByteArray)
 aQ:(List Int)
 bt:(List Int)
structure aL where
 ck:Int
 dD:(List Int)
 cD:ByteArray
 aE:Int
 aH:Int
structure bg where
 ck:Int
 ky:Int
structure aj where
 cD:ByteArray
 aE:Int
 aH:Int
 bk:Int
 bd:Int
structure aw where
 ag:(List aj)
structure jN where
 TM:aw
 xL:Int
 tO:Int
 tN:Int
structure vS where
 z8:aw
def Wl:ByteArray:=ByteArray.mk #[0,1,2,2,3,3,3,3,4,4,4,4,4,4,4,4,5,5,5,5,5,5,5,5,5,5,5,5,5,5,5,5,6,6,6,6,6,6,6,6,6,6,6,6,6,6,6,6,6,6,6,6,6,6,6,6,6,6,6,6,6,6,6,6,7,7,7,7,7,7,7,7,7,7,7,7,7,7,7,7,7,7,7,7,7,7,7,7,7,7,7,7,7,7,7,7,7,7,7,7,7,7,7,7,7,7,7,7,7,7,7,7,7,7,7,7,7,7,7,7,7,7,7,7,7,7,7,7,8,8,8,8,8,8,8,8,8,8,8,8,8,8,8,8,8,8,8,8,8,8,8,8,8,8,8,8,8,8,8,8,8,8,8,8,8,8,8,8,8,8,8,8,8,8,8,8,8,8,8,8,8,8,8,8,8,8,8,8,8,8,8,8,8,8,8,8,8,8,8,8,8,8,8,8,8,8,8,8,8,8,8,8,8,8,8,8,8,8,8,8,8,8,8,8,8,8,8,8,8,8,8,8,8,8,8,8,8,8,8,8,8,8,8,8,8,8,8,8,8,8,8,8,8,8,8,8]
def ec (p0:Int) (p1:Int):Option (Bool) :=
 if decide (p0≥0) then
  some (decide (p0≤p1))
 else
  some false
def iW (p0:aj):Option (Bool) :=
 (if (p0.bk==(-1)) then
  some (p0.bd==(-1))
 else
  some false).bind fun s3j1 =>
 if s3j1 then
  if decide ((p0.cD.size:Int)≤8000) then
   (ec p0.aE 1099511627776).bind fun r4 =>
   if r4 then
    (ec p0.aH 1099511627776).bind fun r6 =>
    some r6
   else
    some false
  else
   some false
 else
  some false
def jV (p0:(List aj)) (p1:Int) (p2:Int):Option (aj×Int) :=
 (ec p1 (IntKind.i64.wrap ((p0.length:Int)-1))).bind fun r1 =>
 (if (!r1) then
  some true
 else
  (ec p2 (IntKind.i64.wrap ((p0.length:Int)-1))).bind fun r9 =>
  some (!r9)).bind fun s24j1 =>
 if s24j1 then
  some ((aj.mk (ByteArray.mk #[]) 0 0 0 0),4)
 else
  (P.idx p0 p1).bind fun x4 =>
  (P.idx p0 p2).bind fun x5 =>
  if decide ((IntKind.i64.wrap (x4.aE+x5.aE))>1125899906842624) then
   some ((aj.mk (ByteArray.mk #[]) 0 0 0 0),3)
  else
   if decide ((IntKind.i64.wrap (x4.aH+x5.aH))>1125899906842624) then
    some ((aj.mk (ByteArray.mk #[]) 0 0 0 0),3)
   else
    some ((aj.mk (ByteArray.mk #[]) (IntKind.i64.wrap (x4.aE+x5.aE)) (IntKind.i64.wrap (x4.aH+x5.aH)) p1 p2),0)
def kT (p0:aw):(Int)→Option ((Int)⊕((Unit)⊕(Bool)))
 | s14a =>
  if decide (s14a<(p0.ag.length:Int)) then
   (P.idx p0.ag s14a).bind fun x13 =>
   (iW x13).bind fun r14 =>
   if r14 then
    some (.inl (IntKind.i64.wrap (s14a+1)))
   else
    (Cx p0.ag 0 s14a).bind fun x16 =>
    (jV x16 x13.bk x13.bd).bind fun r18 =>
    if (r18.2 != 0) then
     some (.inr (.inr false))
    else
     if (!((x13.cD==r18.1.cD)&&((x13.aE==r18.1.aE)&&((x13.aH==r18.1.aH)&&((x13.bk==r18.1.bk)&&(x13.bd==r18.1.bd)))))) then
      some (.inr (.inr false))
     else
      some (.inl (IntKind.i64.wrap (s14a+1)))
  else
   some (.inr (.inl ()))
def dh (p0:aw):Option (Bool) :=
 if decide ((p0.ag.length:Int)>2000) then
  some false
 else
  (aW (kT p0) 0).bind fun q=>match q with
  | (.inl _) =>
   some true
  | (.inr ra) =>
   some ra
def kc (p0:ByteArray) (p1:Int) (p2:Int):Option (aj) :=
 some (aj.mk p0 p1 p2 (-1) (-1))
def dr (p0:(List aj)):Option (List aj):=gC 48 [] p0
def lz (l:List aj) (p1:aj):Option (List aj):=(Ht l p1).bind fun x=>gC 48 l [x]
def bo (p0:(List Int)):Option (List Int):=gC 8 [] p0
def iH (l:List aj) (p1:Int) (p2:Int):Option (List aj):=((y5 aj.mk (fun x=>x.aE) (fun x=>x.aH)) l (p1,p2)).bind fun x=>gC 48 l [x]
def jz (p1:(List ByteArray)) (p2:(List Int)) (p3:(List Int)):(Int)→Option ((Int)⊕((Unit)⊕(aw×Int×(List Int)×Int)))
 | s43b =>
  if decide (s43b<(p1.length:Int)) then
   (P.idx p1 s43b).bind fun x14 =>
   (P.idx p2 s43b).bind fun x15 =>
   (P.idx p3 s43b).bind fun x16 =>
   (kc x14 x15 x16).bind fun r17 =>
   (dh (aw.mk ([r17]))).bind fun r19 =>
   if (!r19) then
    some (.inr (.inr ((aw.mk ([])),(-1),[],1)))
   else
    some (.inl (IntKind.i64.wrap (s43b+1)))
  else
   some (.inr (.inl ()))
def iu (p1:(List ByteArray)) (p2:(List Int)) (p3:(List Int)):(Int×(List Int)×(List aj))→Option ((Int×(List Int)×(List aj))⊕(((List Int)×(List aj))))
 | (s85d,l10d,l1000014d) =>
  if decide (s85d<(p1.length:Int)) then
   (P.idx p1 s85d).bind fun x35 =>
   (P.idx p2 s85d).bind fun x36 =>
   (P.idx p3 s85d).bind fun x37 =>
   (kc x35 x36 x37).bind fun r38 =>
   (lz l1000014d r38).bind fun x39 =>
   (gC 8 l10d [(l1000014d.length:Int)]).bind fun x41 =>
   some (.inl (IntKind.i64.wrap (s85d+1),x41,x39))
  else
   some (.inr (l10d,l1000014d))
def iw (l16e:(List Int)):(Int×(List Int)×(List aj))→Option ((Int×(List Int)×(List aj))⊕(((List Int)×(List aj))))
 | (s18g,l17g,l1000014g) =>
  if decide ((IntKind.i64.wrap (s18g+1))<((l16e).length:Int)) then
   (P.idx l16e s18g).bind fun x77 =>
   (P.idx l16e (IntKind.i64.wrap (s18g+1))).bind fun x78 =>
   (iH l1000014g x77 x78).bind fun x79 =>
   (gC 8 l17g [(l1000014g.length:Int)]).bind fun x81 =>
   some (.inl (IntKind.i64.wrap (s18g+2),x81,x79))
  else
   some (.inr (l17g,l1000014g))
def gi:((List Int)×(List aj))→Option (((List Int)×(List aj))⊕(((List Int)×(List aj))))
 | (l16e,l1000014e) =>
  if decide (((l16e).length:Int)>1) then
   (aW (iw l16e) (0,[],l1000014e)).bind fun q=>match q with
   | (l17gx,l1000014gx) =>
    (uA .i64 ((l16e).length:Int) 2).bind fun x83 =>
    if (x83==1) then
     (P.idx l16e (IntKind.i64.wrap (((l16e).length:Int)-1))).bind fun x86 =>
     (gC 8 l17gx [x86]).bind fun x87 =>
     some (.inl (x87,l1000014gx))
    else
     some (.inl (l17gx,l1000014gx))
  else
   some (.inr (l16e,l1000014e))
def gX (p0:aw) (p1:(List ByteArray)) (p2:(List Int)) (p3:(List Int)):Option (aw×Int×(List Int)×Int) :=
 (dh p0).bind fun r1 =>
 (if (!r1) then
  some true
 else
  if ((p1.length:Int)==0) then
   some true
  else
   if ((p2.length:Int) != (p1.length:Int)) then
    some true
   else
    some ((p3.length:Int) != (p1.length:Int))).bind fun s39j1 =>
 if s39j1 then
  some ((aw.mk ([])),(-1),[],1)
 else
  (aW (jz p1 p2 p3) 0).bind fun q=>match q with
  | (.inl _) =>
   (if decide ((p1.length:Int)>64) then
    some true
   else
    some (decide ((IntKind.i64.wrap ((IntKind.i64.wrap ((p0.ag.length:Int)+(IntKind.i64.wrap (2*(p1.length:Int)))))-1))>2000))).bind fun s76j3 =>
   if s76j3 then
    some ((aw.mk ([])),(-1),[],6)
   else
    (dr p0.ag).bind fun r23 =>
    (aW (iu p1 p2 p3) (0,[],r23)).bind fun q=>match q with
    | (l10dx,l1000014dx) =>
     (bo l10dx).bind fun r43 =>
     (aW (gi) (r43,l1000014dx)).bind fun q=>match q with
     | (l16ex,l1000014ex) =>
      (P.idx l16ex 0).bind fun x89 =>
      some ((aw.mk l1000014ex),x89,l10dx,0)
  | (.inr rb) =>
   some rb
def rP (p0:(List Int)) (p1:(List Int)):(Int)→Option ((Int)⊕((Unit)⊕(Bool)))
 | s5a =>
  if decide (s5a<(p0.length:Int)) then
   (P.idx p0 s5a).bind fun x8 =>
   (P.idx p1 s5a).bind fun x9 =>
   if (x8 != x9) then
    some (.inr (.inr false))
   else
    some (.inl (IntKind.i64.wrap (s5a+1)))
  else
   some (.inr (.inl ()))
def fU (p0:(List Int)) (p1:(List Int)):Option (Bool) :=
 if ((p0.length:Int) != (p1.length:Int)) then
  some false
 else
  (aW (rP p0 p1) 0).bind fun q=>match q with
  | (.inl _) =>
   some true
  | (.inr ra) =>
   some ra
def tu (p0:(List Int)):(Int)→Option ((Int)⊕((Int)))
 | s3a =>
  if decide (s3a>0) then
   (P.idx p0 (IntKind.i64.wrap (s3a-1))).bind fun x6 =>
   if (x6==0) then
    some (.inl (IntKind.i64.wrap (s3a-1)))
   else
    some (.inr s3a)
  else
   some (.inr s3a)
def fT (p0:(List Int)):Option ((List Int)) :=
 (aW (tu p0) (p0.length:Int)).bind fun s3ax =>
 (Cx p0 0 s3ax).bind fun x8 =>
 (gC 8 [] x8).bind fun _ =>
 some x8
def eV (p0:Int) (p1:(List Int)):Option (ay) :=
 (fT p1).bind fun r1 =>
 if ((r1.length:Int)==0) then
  some (ay.mk 0 ([]))
 else
  some (ay.mk p0 r1)
def ug:(Int×(List Int))→Option ((Int×(List Int))⊕(((List Int))))
 | (s0b,l4b) =>
  if (s0b != 0) then
   (uA .i64 s0b 1048576).bind fun x17 =>
   if decide (x17<0) then
    (gC 8 l4b [IntKind.i64.wrap (0-x17)]).bind fun x20 =>
    (xG .i64 s0b 1048576).bind fun x22 =>
    some (.inl (x22,x20))
   else
    (gC 8 l4b [x17]).bind fun x24 =>
    (xG .i64 s0b 1048576).bind fun x26 =>
    some (.inl (x26,x24))
  else
   some (.inr l4b)
def qX (p0:Int):Option (ay) :=
 if (p0==0) then
  some (ay.mk 0 ([]))
 else
  (if decide (p0<0) then
   some (-1)
  else
   some 1).bind fun s3j1 =>
  (aW (ug) (p0,[])).bind fun l4bx =>
  (eV s3j1 l4bx).bind fun r28 =>
  some r28
def np (p0:ay):(Int)→Option ((Int)⊕((Unit)⊕(Bool)))
 | s3a =>
  if decide (s3a<(p0.aa.length:Int)) then
   (P.idx p0.aa s3a).bind fun x7 =>
   if decide (x7<0) then
    some (.inr (.inr false))
   else
    if decide (x7≥1048576) then
     some (.inr (.inr false))
    else
     some (.inl (IntKind.i64.wrap (s3a+1)))
  else
   some (.inr (.inl ()))
def dc (p0:ay):Option (Bool) :=
 (aW (np p0) 0).bind fun q=>match q with
 | (.inl _) =>
  (if decide (p0.ah<(-1)) then
   some true
  else
   if decide (p0.ah>1) then
    some true
   else
    some (!(((p0.aa.length:Int)==0)==(p0.ah==0)))).bind fun s44j2 =>
  if s44j2 then
   some false
  else
   if ((p0.aa.length:Int)==0) then
    some true
   else
    (P.idx p0.aa (IntKind.i64.wrap ((p0.aa.length:Int)-1))).bind fun x13 =>
    some (x13 != 0)
 | (.inr ra) =>
  some ra
def oN (p0:ay):Option (ay) :=
 (dc p0).bind fun r1 =>
 if (!r1) then
  some (ay.mk 0 ([]))
 else
  (eV (IntKind.i64.wrap (0-p0.ah)) p0.aa).bind fun r3 =>
  some r3
def fJ (p0:(List Int)) (p1:Int):Option (Int) :=
 if decide (p1<(p0.length:Int)) then
  (P.idx p0 p1).bind fun x2 =>
  some x2
 else
  some 0
def nt (p0:(List Int)) (p1:(List Int)) (s6a:Int):(Int×Int×(List Int))→Option ((Int×Int×(List Int))⊕(((List Int))))
 | (s7e,s8e,l5e) =>
  (if decide (s8e<(p1.length:Int)) then
   some true
  else
   some (decide (s7e>0))).bind fun s29j7 =>
  if s29j7 then
   (P.idx l5e (IntKind.i64.wrap (s6a+s8e))).bind fun x43 =>
   (P.idx p0 s6a).bind fun x44 =>
   (fJ p1 s8e).bind fun r45 =>
   (uA .i64 (IntKind.i64.wrap ((IntKind.i64.wrap (x43+(IntKind.i64.wrap (x44*r45))))+s7e)) 1048576).bind fun x46 =>
   (xG .i64 (IntKind.i64.wrap ((IntKind.i64.wrap (x43+(IntKind.i64.wrap (x44*r45))))+s7e)) 1048576).bind fun x49 =>
   some (.inl (x49,IntKind.i64.wrap (s8e+1),(l5e.set (IntKind.i64.wrap (s6a+s8e)).toNat x46)))
  else
   some (.inr l5e)
def ns (p0:(List Int)) (p1:(List Int)):(Int×(List Int))→Option ((Int×(List Int))⊕(((List Int))))
 | (s6a,l5a) =>
  if decide (s6a<(p0.length:Int)) then
   (aW (nt p0 p1 s6a) (0,0,l5a)).bind fun l5ex =>
   some (.inl (IntKind.i64.wrap (s6a+1),l5ex))
  else
   some (.inr l5a)
def je (p0:(List Int)) (p1:(List Int)):Option ((List Int)) :=
 (KU 8 (IntKind.i64.wrap ((p0.length:Int)+(p1.length:Int))) (IntKind.i64.wrap ((p0.length:Int)+(p1.length:Int))) 0).bind fun x1 =>
 (aW (ns p0 p1) (0,x1)).bind fun l5ax =>
 (fT l5ax).bind fun r52 =>
 some r52
def oO (p0:(List Int)) (p1:(List Int)):(Int)→Option ((Int)⊕((Unit)⊕(Bool)))
 | s5a =>
  if decide (s5a≥0) then
   (fJ p0 s5a).bind fun r7 =>
   (fJ p1 s5a).bind fun r8 =>
   if (r7 != r8) then
    some (.inr (.inr (decide (r7<r8))))
   else
    some (.inl (IntKind.i64.wrap (s5a-1)))
  else
   some (.inr (.inl ()))
def me (p0:(List Int)) (p1:(List Int)):Option (Bool) :=
 (aW (oO p0 p1) (IntKind.i64.wrap ((if (p1.length:Int)>(p0.length:Int) then (p1.length:Int) else (p0.length:Int))-1))).bind fun q=>match q with
 | (.inl _) =>
  some false
 | (.inr ra) =>
  some ra
def nq (p0:(List Int)) (p1:(List Int)):(Int×Int×(List Int))→Option ((Int×Int×(List Int))⊕(((List Int))))
 | (s6a,s7a,l5a) =>
  if decide (s7a<(p0.length:Int)) then
   (P.idx p0 s7a).bind fun x11 =>
   (fJ p1 s7a).bind fun r12 =>
   if decide ((IntKind.i64.wrap ((IntKind.i64.wrap (x11-r12))-s6a))<0) then
    (gC 8 l5a [IntKind.i64.wrap ((IntKind.i64.wrap ((IntKind.i64.wrap (x11-r12))-s6a))+1048576)]).bind fun x14 =>
    some (.inl (1,IntKind.i64.wrap (s7a+1),x14))
   else
    (gC 8 l5a [IntKind.i64.wrap ((IntKind.i64.wrap (x11-r12))-s6a)]).bind fun x16 =>
    some (.inl (0,IntKind.i64.wrap (s7a+1),x16))
  else
   some (.inr l5a)
def j8 (p0:(List Int)) (p1:(List Int)):Option ((List Int)) :=
 (aW (nq p0 p1) (0,0,[])).bind fun l5ax =>
 (fT l5ax).bind fun r18 =>
 some r18
def mg (p1:(List Int)) (r34:(List Int)):(Int×Int)→Option ((Int×Int)⊕((Int)))
 | (s9c,s10c) =>
  if decide ((IntKind.i64.wrap (s10c-s9c))>1) then
   (xG .i64 (IntKind.i64.wrap (s9c+s10c)) 2).bind fun x44 =>
   (je p1 ([x44])).bind fun r47 =>
   (me r34 r47).bind fun r48 =>
   if r48 then
    some (.inl (s9c,x44))
   else
    some (.inl (x44,s10c))
  else
   some (.inr s9c)
def oP (p0:(List Int)) (p1:(List Int)):((List Int)×Int×(List Int))→Option (((List Int)×Int×(List Int))⊕(((List Int)×(List Int))))
 | (s7a,s8a,l6a) =>
  if decide (s8a≥0) then
   (P.idx p0 s8a).bind fun x31 =>
   (gC 8 [x31] s7a).bind fun x32 =>
   (fT x32).bind fun r34 =>
   (aW (mg p1 r34) (0,1048576)).bind fun s9cx =>
   (P.idx l6a s8a).bind fun x50 =>
   (fT ([s9cx])).bind fun r53 =>
   (je p1 r53).bind fun r54 =>
   (j8 r34 r54).bind fun r55 =>
   some (.inl (r55,IntKind.i64.wrap (s8a-1),(l6a.set (s8a).toNat s9cx)))
  else
   some (.inr (s7a,l6a))
def mf (p0:(List Int)) (p1:(List Int)):Option ((List Int)×(List Int)) :=
 (KU 8 (p0.length:Int) (p0.length:Int) 0).bind fun x1 =>
 (aW (oP p0 p1) ([],IntKind.i64.wrap ((p0.length:Int)-1),x1)).bind fun q=>match q with
 | (s7ax,l6ax) =>
  (fT l6ax).bind fun r56 =>
  some (r56,s7ax)
def nZ:((List Int)×(List Int))→Option (((List Int)×(List Int))⊕(((List Int))))
 | (s6b,s7b) =>
  if decide ((s7b.length:Int)>0) then
   (mf s6b s7b).bind fun r8 =>
   some (.inl (s7b,r8.2))
  else
   some (.inr s6b)
def nn (p0:ay) (p1:ay):Option (ay×Int) :=
 (dc p0).bind fun r1 =>
 (if (!r1) then
  some true
 else
  (dc p1).bind fun r11 =>
  some (!r11)).bind fun s17j1 =>
 if s17j1 then
  some ((ay.mk 0 ([])),1)
 else
  (aW (nZ) (p0.aa,p1.aa)).bind fun s6bx =>
  (eV 1 s6bx).bind fun r9 =>
  some (r9,0)
def zi (p0:(List Int)) (p1:(List Int)):(Int×Int×(List Int))→Option ((Int×Int×(List Int))⊕(((List Int))))
 | (s6a,s7a,l5a) =>
  (if decide (s7a<(p0.length:Int)) then
   some true
  else
   if decide (s7a<(p1.length:Int)) then
    some true
   else
    some (decide (s6a>0))).bind fun s22j3 =>
  if s22j3 then
   (fJ p0 s7a).bind fun r16 =>
   (fJ p1 s7a).bind fun r17 =>
   (uA .i64 (IntKind.i64.wrap ((IntKind.i64.wrap (r16+r17))+s6a)) 1048576).bind fun x18 =>
   (gC 8 l5a [x18]).bind fun x20 =>
   (xG .i64 (IntKind.i64.wrap ((IntKind.i64.wrap (r16+r17))+s6a)) 1048576).bind fun x22 =>
   some (.inl (x22,IntKind.i64.wrap (s7a+1),x20))
  else
   some (.inr l5a)
def tr (p0:(List Int)) (p1:(List Int)):Option ((List Int)) :=
 (aW (zi p0 p1) (0,0,[])).bind fun l5ax =>
 (fT l5ax).bind fun r26 =>
 some r26
def lX (p0:ay) (p1:ay):Option (ay×ay×Int) :=
 (dc p0).bind fun r1 =>
 (if (!r1) then
  some true
 else
  (dc p1).bind fun r17 =>
  some (!r17)).bind fun s16j1 =>
 if s16j1 then
  some ((ay.mk 0 ([])),(ay.mk 0 ([])),1)
 else
  if (p1.ah==0) then
   some ((ay.mk 0 ([])),(ay.mk 0 ([])),15)
  else
   (mf p0.aa p1.aa).bind fun r5 =>
   (if decide ((IntKind.i64.wrap (p0.ah*p1.ah))≥0) then
    some true
   else
    some ((r5.2.length:Int)==0)).bind fun s42j2 =>
   if s42j2 then
    (eV (IntKind.i64.wrap (p0.ah*p1.ah)) r5.1).bind fun r8 =>
    (eV p0.ah r5.2).bind fun r9 =>
    some (r8,r9,0)
   else
    (tr r5.1 ([1])).bind fun r11 =>
    (eV (-1) r11).bind fun r12 =>
    (j8 p1.aa r5.2).bind fun r13 =>
    (eV p1.ah r13).bind fun r14 =>
    some (r12,r14,0)
def qY (p0:ay) (p1:ay):Option (aT×Int) :=
 (dc p0).bind fun r1 =>
 (if (!r1) then
  some true
 else
  (dc p1).bind fun r13 =>
  some (!r13)).bind fun s21j1 =>
 if s21j1 then
  some ((aT.mk (ay.mk 0 ([])) (ay.mk 0 ([]))),1)
 else
  if (p1.ah==0) then
   some ((aT.mk (ay.mk 0 ([])) (ay.mk 0 ([]))),15)
  else
   (if decide (p1.ah<0) then
    (oN p0).bind fun r10 =>
    (oN p1).bind fun r11 =>
    some (r10.ah,r10.aa,r11.ah,r11.aa)
   else
    some (p0.ah,p0.aa,p1.ah,p1.aa)).bind fun q=>match q with
   | (r2_0j2,r2_1j2,r3_0j2,r3_1j2) =>
    (nn (ay.mk r2_0j2 r2_1j2) (ay.mk r3_0j2 r3_1j2)).bind fun r6 =>
    (lX (ay.mk r2_0j2 r2_1j2) r6.1).bind fun r7 =>
    (lX (ay.mk r3_0j2 r3_1j2) r6.1).bind fun r8 =>
    some ((aT.mk r7.1 r8.1),0)
def vH (p0:Int) (p1:Int):Option (aT×Int) :=
 (qX p0).bind fun r1 =>
 (qX p1).bind fun r2 =>
 (qY r1 r2).bind fun r3 =>
 some (r3.1,r3.2)
def nw (p0:Int):Option (aT) :=
 (vH p0 1).bind fun r1 =>
 some r1.1
def gJ (p0:Int) (p1:Int):Option (cr) :=
 (nw p0).bind fun r1 =>
 (nw p1).bind fun r2 =>
 some (cr.mk r1 r2)
def mJ (p0:ay):(Int)→Option ((Int)⊕((Unit)⊕(Bool)))
 | s12a =>
  if decide (s12a<(p0.aa.length:Int)) then
   (P.idx p0.aa s12a).bind fun x7 =>
   if decide (x7<0) then
    some (.inr (.inr false))
   else
    if decide (x7>1048575) then
     some (.inr (.inr false))
    else
     some (.inl (IntKind.i64.wrap (s12a+1)))
  else
   some (.inr (.inl ()))
def eh (p0:ay):Option (Bool) :=
 (aW (mJ p0) 0).bind fun q=>match q with
 | (.inl _) =>
  if ((p0.aa.length:Int)==0) then
   some (p0.ah==0)
  else
   if (p0.ah==1) then
    (P.idx p0.aa (IntKind.i64.wrap ((p0.aa.length:Int)-1))).bind fun x12 =>
    some (x12 != 0)
   else
    if (p0.ah==(-1)) then
     (P.idx p0.aa (IntKind.i64.wrap ((p0.aa.length:Int)-1))).bind fun x14 =>
     some (x14 != 0)
    else
     some false
 | (.inr ra) =>
  some ra
def fL (p0:Bool) (p1:ay):Option (ay×Int) :=
 if (!p0) then
  some ((ay.mk 0 ([])),1)
 else
  some (p1,0)
def iX (p0:Int):Option (Bool) :=
 some (p0 != p0)
def fN (p0:Int) (p1:Int):Option (Int) :=
 (iX p0).bind fun r1 =>
 (iX p1).bind fun r2 =>
 if r1 then
  if r2 then
   some 0
  else
   some (-1)
 else
  if r2 then
   some 1
  else
   if decide (p0<p1) then
    some (-1)
   else
    if decide (p0>p1) then
     some 1
    else
     some 0
def kr (p0:(List Int)) (p1:(List Int)):(Int)→Option ((Int)⊕((Unit)⊕(Int)))
 | s5a =>
  if decide (s5a≥0) then
   (P.idx p0 s5a).bind fun x10 =>
   (P.idx p1 s5a).bind fun x11 =>
   if (x10 != x11) then
    (fN x10 x11).bind fun r13 =>
    some (.inr (.inr r13))
   else
    some (.inl (IntKind.i64.wrap (s5a-1)))
  else
   some (.inr (.inl ()))
def fe (p0:(List Int)) (p1:(List Int)):Option (Int) :=
 if ((p0.length:Int) != (p1.length:Int)) then
  (fN (p0.length:Int) (p1.length:Int)).bind fun r2 =>
  some r2
 else
  (aW (kr p0 p1) (IntKind.i64.wrap ((p0.length:Int)-1))).bind fun q=>match q with
  | (.inl _) =>
   some 0
  | (.inr ra) =>
   some ra
def j6 (p0:(List Int)):(Int)→Option ((Int)⊕((Int)))
 | s3a =>
  if decide (s3a>0) then
   (P.idx p0 (IntKind.i64.wrap (s3a-1))).bind fun x6 =>
   if (x6==0) then
    some (.inl (IntKind.i64.wrap (s3a-1)))
   else
    some (.inr s3a)
  else
   some (.inr s3a)
def eB (p0:(List Int)):Option ((List Int)) :=
 (aW (j6 p0) (p0.length:Int)).bind fun s3ax =>
 (Cx p0 0 s3ax).bind fun x8 =>
 some x8
def mL (p0:(List Int)) (p1:Int):(Int×Int×(List Int))→Option ((Int×Int×(List Int))⊕((Int×(List Int))))
 | (s7a,s8a,l6a) =>
  if decide (s8a≥0) then
   (DH .i64 s7a 20).bind fun x15 =>
   (P.idx p0 s8a).bind fun x17 =>
   (xG .i64 (mv .or .i64 x15 x17) p1).bind fun x18 =>
   (P.idx l6a s8a).bind fun x20 =>
   (uA .i64 (mv .or .i64 x15 x17) p1).bind fun x22 =>
   some (.inl (x22,IntKind.i64.wrap (s8a-1),(l6a.set (s8a).toNat x18)))
  else
   some (.inr (s7a,l6a))
def j5 (p0:(List Int)) (p1:Int):Option ((List Int)×Int) :=
 (KU 8 (p0.length:Int) (p0.length:Int) 0).bind fun x1 =>
 (aW (mL p0 p1) (0,IntKind.i64.wrap ((p0.length:Int)-1),x1)).bind fun q=>match q with
 | (s7ax,l6ax) =>
  (eB l6ax).bind fun r24 =>
  some (r24,s7ax)
def qv (p1:(List Int)) (s20a:Int) (x22:Int):(Int×Int×(List Int))→Option ((Int×Int×(List Int))⊕((Int×(List Int))))
 | (s8c,s27c,l5c) =>
  if decide (s27c<(p1.length:Int)) then
   (P.idx p1 s27c).bind fun x31 =>
   (P.idx l5c (IntKind.i64.wrap (s20a+s27c))).bind fun x32 =>
   (uC .i64 (IntKind.i64.wrap ((IntKind.i64.wrap (x32+(IntKind.i64.wrap (x22*x31))))+s8c)) 20).bind fun x33 =>
   some (.inl (x33,IntKind.i64.wrap (s27c+1),(l5c.set (IntKind.i64.wrap (s20a+s27c)).toNat (mv .and .i64 (IntKind.i64.wrap ((IntKind.i64.wrap (x32+(IntKind.i64.wrap (x22*x31))))+s8c)) 1048575))))
  else
   some (.inr (s8c,l5c))
def qu (p0:(List Int)) (p1:(List Int)):(Int×(List Int))→Option ((Int×(List Int))⊕(((List Int))))
 | (s20a,l5a) =>
  if decide (s20a<(p0.length:Int)) then
   (P.idx p0 s20a).bind fun x22 =>
   (aW (qv p1 s20a x22) (0,0,l5a)).bind fun q=>match q with
   | (s8cx,l5cx) =>
    (P.idx l5cx (IntKind.i64.wrap (s20a+(p1.length:Int)))).bind fun x36 =>
    some (.inl (IntKind.i64.wrap (s20a+1),(l5cx.set (IntKind.i64.wrap (s20a+(p1.length:Int))).toNat (IntKind.i64.wrap (x36+s8cx)))))
  else
   some (.inr l5a)
def mK (p0:(List Int)) (p1:(List Int)):Option ((List Int)) :=
 (KU 8 (IntKind.i64.wrap ((p0.length:Int)+(p1.length:Int))) (IntKind.i64.wrap ((p0.length:Int)+(p1.length:Int))) 0).bind fun x1 =>
 (aW (qu p0 p1) (0,x1)).bind fun l5ax =>
 (eB l5ax).bind fun r39 =>
 some r39
def jD (p0:(List Int)) (p1:(List Int)) (p2:Int):(Int×Int×(List Int))→Option ((Int×Int×(List Int))⊕((Int×(List Int))))
 | (s7a,s14a,l0a) =>
  if decide (s14a<((p0).length:Int)) then
   (P.idx l0a s14a).bind fun x11 =>
   (if decide (s14a<(p1.length:Int)) then
    (P.idx p1 s14a).bind fun x17 =>
    some (IntKind.i64.wrap ((IntKind.i64.wrap (x11-s7a))-(IntKind.i64.wrap (p2*x17))))
   else
    some (IntKind.i64.wrap (x11-s7a))).bind fun s9j3 =>
   (uC .i64 s9j3 20).bind fun x14 =>
   some (.inl (IntKind.i64.wrap (0-x14),IntKind.i64.wrap (s14a+1),(l0a.set (s14a).toNat (mv .and .i64 s9j3 1048575))))
  else
   some (.inr (s7a,l0a))
def jE (p1:(List Int)) (l0ax:(List Int)):(Int×Int×(List Int))→Option ((Int×Int×(List Int))⊕(((List Int))))
 | (s10d,s49d,l0d) =>
  if decide (s49d<((l0ax).length:Int)) then
   (P.idx l0d s49d).bind fun x29 =>
   (if decide (s49d<(p1.length:Int)) then
    (P.idx p1 s49d).bind fun x35 =>
    some (IntKind.i64.wrap ((IntKind.i64.wrap (s10d+x29))+x35))
   else
    some (IntKind.i64.wrap (s10d+x29))).bind fun s10j6 =>
   (uC .i64 s10j6 20).bind fun x32 =>
   some (.inl (x32,IntKind.i64.wrap (s49d+1),(l0d.set (s49d).toNat (mv .and .i64 s10j6 1048575))))
  else
   some (.inr l0d)
def nI (p0:(List Int)) (p1:(List Int)) (p2:Int):Option ((List Int)×(Int)) :=
 (aW (jD p0 p1 p2) (0,0,p0)).bind fun q=>match q with
 | (s7ax,l0ax) =>
  if (s7ax==0) then
   some (l0ax,p2)
  else
   (aW (jE p1 l0ax) (0,0,l0ax)).bind fun l0dx =>
   some (l0dx,IntKind.i64.wrap (p2-1))
def eW (p0:(List Int)) (p1:(List Int)) (p2:Int):Option ((List Int)×(Int)):=(nI p0 p1 p2).bind fun r=>if r.1.length=p0.length then some r else none
theorem xS {p0:(List Int)} {p1:(List Int)} {p2:Int} {r:(List Int)×(Int)} (h:eW p0 p1 p2=some r):r.1.length=p0.length:=by
 unfold eW at h
 obtain⟨q,hq,h⟩:=ae h
 split at h
 ·cases h;assumption
 ·cases h
def qp (p1:(List Int)):(Int)→Option ((Int)⊕((Int)))
 | s8a =>
  (P.idx p1 (IntKind.i64.wrap ((p1.length:Int)-1))).bind fun x12 =>
  if decide ((IntKind.i64.wrap (x12*s8a))<524288) then
   some (.inl (IntKind.i64.wrap (s8a*2)))
  else
   some (.inr s8a)
def qt (r19:(List Int)) (s13c:Int) (l9c:(List Int)) (x64:Int):(Int×Int)→Option ((Int×Int)⊕((Int)))
 | (s15g,s16g) =>
  (if decide (s15g≥1048576) then
   some true
  else
   if decide (s16g<1048576) then
    (P.idx r19 (IntKind.i64.wrap (((r19).length:Int)-2))).bind fun x83 =>
    (DH .i64 s16g 20).bind fun x84 =>
    (P.idx l9c (IntKind.i64.wrap ((IntKind.i64.wrap (s13c+((r19).length:Int)))-2))).bind fun x86 =>
    some (decide ((IntKind.i64.wrap (s15g*x83))>(mv .or .i64 x84 x86)))
   else
    some false).bind fun s137j9 =>
  if s137j9 then
   some (.inl (IntKind.i64.wrap (s15g-1),IntKind.i64.wrap (s16g+x64)))
  else
   some (.inr s15g)
def qq (r19:(List Int)):(Int×(List Int)×(List Int))→Option ((Int×(List Int)×(List Int))⊕(((List Int)×(List Int))))
 | (s13c,l9c,l12c) =>
  if decide (s13c≥0) then
   (P.idx l9c (IntKind.i64.wrap (s13c+((r19).length:Int)))).bind fun x60 =>
   (DH .i64 x60 20).bind fun x61 =>
   (P.idx l9c (IntKind.i64.wrap ((IntKind.i64.wrap (s13c+((r19).length:Int)))-1))).bind fun x63 =>
   (P.idx r19 (IntKind.i64.wrap (((r19).length:Int)-1))).bind fun x64 =>
   (xG .i64 (mv .or .i64 x61 x63) x64).bind fun x65 =>
   (uA .i64 (mv .or .i64 x61 x63) x64).bind fun x67 =>
   (aW (qt r19 s13c l9c x64) (x65,x67)).bind fun s15gx =>
   (Cx l9c s13c (IntKind.i64.wrap ((IntKind.i64.wrap (s13c+((r19).length:Int)))+1))).bind fun x87 =>
   (eW x87 r19 s15gx).bind fun r90 =>
   (P.idx l12c s13c).bind fun x92 =>
   some (.inl (IntKind.i64.wrap (s13c-1),(l9c.take (s13c).toNat++(r90.1++l9c.drop (IntKind.i64.wrap ((IntKind.i64.wrap (s13c+((r19).length:Int)))+1)).toNat)),(l12c.set (s13c).toNat r90.2)))
  else
   some (.inr (l9c,l12c))
def qo (p0:(List Int)) (p1:(List Int)):Option ((List Int)×(List Int)) :=
 (fe p0 p1).bind fun r1 =>
 if decide (r1<0) then
  (bo p0).bind fun r3 =>
  some ([],r3)
 else
  if ((p1.length:Int)==1) then
   (P.idx p1 0).bind fun x5 =>
   (j5 p0 x5).bind fun r6 =>
   (eB ([r6.2])).bind fun r8 =>
   some (r6.1,r8)
  else
   (aW (qp p1) 1).bind fun s8ax =>
   (mK p0 ([s8ax])).bind fun r15 =>
   (gC 8 r15 [0]).bind fun x16 =>
   (mK p1 ([s8ax])).bind fun r19 =>
   (if (((x16).length:Int)==(p0.length:Int)) then
    (gC 8 x16 [0]).bind fun x98 =>
    some x98
   else
    some x16).bind fun l9j2 =>
   (KU 8 (IntKind.i64.wrap (((l9j2).length:Int)-((r19).length:Int))) (IntKind.i64.wrap (((l9j2).length:Int)-((r19).length:Int))) 0).bind fun x21 =>
   (aW (qq r19) (IntKind.i64.wrap (((x21).length:Int)-1),l9j2,x21)).bind fun q=>match q with
   | (l9cx,l12cx) =>
    (eB l9cx).bind fun r94 =>
    (j5 r94 s8ax).bind fun r95 =>
    (eB l12cx).bind fun r96 =>
    some (r96,r95.1)
def fw (p0:Int) (p1:(List Int)):Option (ay) :=
 (eB p1).bind fun r1 =>
 if ((r1.length:Int)==0) then
  some (ay.mk 0 ([]))
 else
  some (ay.mk p0 r1)
def nH:((List Int)×(List Int))→Option (((List Int)×(List Int))⊕(((List Int))))
 | (s6b,s7b) =>
  if decide ((s7b.length:Int)>0) then
   (qo s6b s7b).bind fun r11 =>
   some (.inl (s7b,r11.2))
  else
   some (.inr s6b)
def qk (p0:ay) (p1:ay):Option (ay×Int) :=
 (eh p0).bind fun r1 =>
 (if (!r1) then
  some true
 else
  (eh p1).bind fun r16 =>
  some (!r16)).bind fun s17j1 =>
 if s17j1 then
  (fL false (ay.mk 0 ([]))).bind fun r5 =>
  some (r5.1,r5.2)
 else
  (bo p0.aa).bind fun r6 =>
  (aW (nH) (r6,p1.aa)).bind fun s6bx =>
  (bo s6bx).bind fun r12 =>
  (fw 1 r12).bind fun r13 =>
  (fL true r13).bind fun r14 =>
  some (r14.1,r14.2)
def qm (p0:ay):(Int×Int)→Option ((Int×Int)⊕((Int)⊕(Int×Bool)))
 | (s4b,s19b) =>
  if decide (s19b<(p0.aa.length:Int)) then
   (P.idx p0.aa s19b).bind fun x13 =>
   (if (s19b==3) then
    some (decide (x13>8))
   else
    some false).bind fun s29j4 =>
   if s29j4 then
    some (.inr (.inr (0,false)))
   else
    (DH .u64 (IntKind.u64.wrap x13) (IntKind.i64.wrap (20*s19b))).bind fun x16 =>
    some (.inl (mv .or .u64 s4b x16,IntKind.i64.wrap (s19b+1)))
  else
   some (.inr (.inl s4b))
def ql (p0:ay):Option (Int×Bool) :=
 (eh p0).bind fun r1 =>
 (if (!r1) then
  some true
 else
  some (decide ((p0.aa.length:Int)>4))).bind fun s15j1 =>
 if s15j1 then
  some (0,false)
 else
  (aW (qm p0) (0,0)).bind fun q=>match q with
  | (.inl s4bx) =>
   (if decide (p0.ah<0) then
    some (decide (s4bx≤9223372036854775808))
   else
    some false).bind fun s38j5 =>
   if s38j5 then
    some (IntKind.i64.wrap (IntKind.u64.wrap (0-s4bx)),true)
   else
    if decide (p0.ah≥0) then
     if decide (s4bx<9223372036854775808) then
      some (IntKind.i64.wrap s4bx,true)
     else
      some (0,false)
    else
     some (0,false)
  | (.inr rb) =>
   some rb
def nU (p0:ay):Option (Bool) :=
 (ql p0).bind fun r1 =>
 if r1.2 then
  some (r1.1==1)
 else
  some false
def eS (p0:aT):Option (Bool) :=
 (eh p0.cu).bind fun r1 =>
 (if (!r1) then
  some true
 else
  (eh p0.ct).bind fun r8 =>
  if (!r8) then
   some true
  else
   some (p0.ct.ah != 1)).bind fun s20j1 =>
 if s20j1 then
  some false
 else
  (qk p0.cu p0.ct).bind fun r4 =>
  if (r4.2==0) then
   (nU r4.1).bind fun r6 =>
   some r6
  else
   some false
def qn (p0:ay) (p1:ay):Option (ay×Int) :=
 (eh p0).bind fun r1 =>
 (if (!r1) then
  some true
 else
  (eh p1).bind fun r10 =>
  some (!r10)).bind fun s13j1 =>
 if s13j1 then
  (fL false (ay.mk 0 ([]))).bind fun r5 =>
  some (r5.1,r5.2)
 else
  (mK p0.aa p1.aa).bind fun r6 =>
  (fw (IntKind.i64.wrap (p0.ah*p1.ah)) r6).bind fun r7 =>
  (fL true r7).bind fun r8 =>
  some (r8.1,r8.2)
def gh (p0:ay) (p1:ay):Option (ay) :=
 (qn p0 p1).bind fun r1 =>
 some r1.1
def iO (p0:ay) (p1:ay):Option (Int) :=
 (eh p0).bind fun r1 =>
 (if (!r1) then
  some true
 else
  (eh p1).bind fun r8 =>
  some (!r8)).bind fun s12j1 =>
 if s12j1 then
  some 0
 else
  if (p0.ah != p1.ah) then
   (fN p0.ah p1.ah).bind fun r5 =>
   some r5
  else
   (fe p0.aa p1.aa).bind fun r6 =>
   some (IntKind.i64.wrap (p0.ah*r6))
def e9 (p0:aT) (p1:aT):Option (Int) :=
 (eS p0).bind fun r1 =>
 (if (!r1) then
  some true
 else
  (eS p1).bind fun r8 =>
  some (!r8)).bind fun s12j1 =>
 if s12j1 then
  some 0
 else
  (gh p0.cu p1.ct).bind fun r4 =>
  (gh p1.cu p0.ct).bind fun r5 =>
  (iO r4 r5).bind fun r6 =>
  some r6
def fE (p0:cr):Option (Bool) :=
 (eS p0.bn).bind fun r1 =>
 if r1 then
  (eS p0.aM).bind fun r3 =>
  if r3 then
   (e9 p0.bn p0.aM).bind fun r5 =>
   some (decide (r5≤0))
  else
   some false
 else
  some false
def ie (p0:aB):Option (Bool) :=
 (fE p0.bG).bind fun r1 =>
 some (!r1)
def ic (p0:Int):Option (Int) :=
 (if decide (p0≥4294967296) then
  (uC .u64 p0 32).bind fun x14 =>
  some (x14,32)
 else
  some (p0,0)).bind fun q=>match q with
 | (s0j1,s2j1) =>
  (if decide (s0j1≥65536) then
   (uC .u64 s0j1 16).bind fun x11 =>
   some (x11,IntKind.i64.wrap (s2j1+16))
  else
   some (s0j1,s2j1)).bind fun q=>match q with
  | (s0j2,s2j2) =>
   if decide (s0j2≥256) then
    (uC .u64 s0j2 8).bind fun x4 =>
    (P.T8 Wl (IntKind.u8.wrap x4)).bind fun x6 =>
    some (IntKind.i64.wrap ((IntKind.i64.wrap (s2j2+8))+(IntKind.i64.wrap x6)))
   else
    (P.T8 Wl (IntKind.u8.wrap s0j2)).bind fun x8 =>
    some (IntKind.i64.wrap (s2j2+(IntKind.i64.wrap x8)))
def jt (p0:Int):Option (Int) :=
 (ic p0).bind fun r1 =>
 some r1
def sy (p0:Int) (p1:Int):Option (Bool) :=
 (iX p0).bind fun r1 =>
 if r1 then
  (iX p1).bind fun r3 =>
  if (!r3) then
   some true
  else
   some (decide (p0<p1))
 else
  some (decide (p0<p1))
def fX (p1:Int):(Int×(List Int))→Option ((Int×(List Int))⊕(((List Int))))
 | (s7e,l0e) =>
  (if decide (s7e>p1) then
   (P.idx l0e s7e).bind fun x47 =>
   (P.idx l0e (IntKind.i64.wrap (s7e-1))).bind fun x48 =>
   (sy x47 x48).bind fun r49 =>
   some r49
  else
   some false).bind fun s30j7 =>
  if s30j7 then
   (P.idx l0e (IntKind.i64.wrap (s7e-1))).bind fun x41 =>
   (P.idx l0e s7e).bind fun x42 =>
   (P.idx (l0e.set (s7e).toNat x41) (IntKind.i64.wrap (s7e-1))).bind fun x44 =>
   some (.inl (IntKind.i64.wrap (s7e-1),((l0e.set (s7e).toNat x41).set (IntKind.i64.wrap (s7e-1)).toNat x42)))
  else
   some (.inr l0e)
def fW (p1:Int) (p2:Int):(Int×(List Int))→Option ((Int×(List Int))⊕(((List Int))))
 | (s6a,l0a) =>
  if decide (s6a<p2) then
   (aW (fX p1) (s6a,l0a)).bind fun l0ex =>
   some (.inl (IntKind.i64.wrap (s6a+1),l0ex))
  else
   some (.inr l0a)
def gm (p0:(List Int)) (p1:Int) (p2:Int):Option ((List Int)×(Unit)) :=
 (aW (fW p1 p2) (IntKind.i64.wrap (p1+1),p0)).bind fun l0ax =>
 some (l0ax,())
def bP (p0:(List Int)) (p1:Int) (p2:Int):Option ((List Int)×(Unit)):=(gm p0 p1 p2).bind fun r=>if r.1.length=p0.length then some r else none
theorem kf {p0:(List Int)} {p1:Int} {p2:Int} {r:(List Int)×(Unit)} (h:bP p0 p1 p2=some r):r.1.length=p0.length:=by
 unfold bP at h
 obtain⟨q,hq,h⟩:=ae h
 split at h
 ·cases h;assumption
 ·cases h
def iT (p0:(List Int)) (p1:Int) (p2:Int) (p3:Int):(Unit)→Option ((Unit)⊕(((List Int)×(Unit))))
 | _ =>
  if decide ((IntKind.i64.wrap (p2-p1))≤12) then
   (bP p0 p1 p2).bind fun r9 =>
   some (.inr (r9.1,()))
  else
   if (p3==0) then
    none
   else
    none
def jh (p0:(List Int)) (p1:Int) (p2:Int) (p3:Int):Option ((List Int)×(Unit)) :=
 (aW (iT p0 p1 p2 p3) ()).bind fun ra =>
 some ra
def cy (p0:(List Int)) (p1:Int) (p2:Int) (p3:Int):Option ((List Int)×(Unit)):=(jh p0 p1 p2 p3).bind fun r=>if r.1.length=p0.length then some r else none
theorem mZ {p0:(List Int)} {p1:Int} {p2:Int} {p3:Int} {r:(List Int)×(Unit)} (h:cy p0 p1 p2 p3=some r):r.1.length=p0.length:=by
 unfold cy at h
 obtain⟨q,hq,h⟩:=ae h
 split at h
 ·cases h;assumption
 ·cases h
def rS (p0:(List Int)):Option ((List Int)×(Unit)) :=
 (jt (IntKind.u64.wrap ((p0).length:Int))).bind fun r1 =>
 (cy p0 0 ((p0).length:Int) r1).bind fun r3 =>
 some (r3.1,())
def pn (p0:(List Int)):Option ((List Int)×(Unit)):=(rS p0).bind fun r=>if r.1.length=p0.length then some r else none
def jQ (p0:(List Int)):Option ((List Int)×Unit):=if p0.length<4611686018427387904 then some (fY p0,()) else none
theorem BR {p0:(List Int)} {r:(List Int)×Unit} (h:jQ p0=some r):r.1.length=p0.length:=by
 unfold jQ at h
 split at h
 ·cases h;exact fp p0
 ·cases h
def iS (p0:(List Int)):Option (List Int):=Nv p0
def fK (p0:(List Int)):Option (Bool) :=
 (bo p0).bind fun r1 =>
 (jQ r1).bind fun r3 =>
 (iS r3.1).bind fun r6 =>
 some (decide (((r6).length:Int)<(p0.length:Int)))
def dM (p0:aL) (p1:Int):Option (Bool) :=
 some (p0.ck==p1)
def kS (p0:aw) (p1:Int):Option (Bool) :=
 if decide (p1≥0) then
  some (decide (p1<(p0.ag.length:Int)))
 else
  some false
def jA (p0:aw) (p1:(List Int)):(Int)→Option ((Int)⊕((Unit)⊕(Bool)))
 | s18b =>
  if decide (s18b<(p1.length:Int)) then
   (P.idx p1 s18b).bind fun x15 =>
   (kS p0 x15).bind fun r16 =>
   if (!r16) then
    some (.inr (.inr false))
   else
    if decide (s18b>0) then
     (P.idx p1 (IntKind.i64.wrap (s18b-1))).bind fun x19 =>
     (P.idx p0.ag x19).bind fun x20 =>
     if (x20.bk != x15) then
      if (x20.bd != x15) then
       some (.inr (.inr false))
      else
       some (.inl (IntKind.i64.wrap (s18b+1)))
     else
      some (.inl (IntKind.i64.wrap (s18b+1)))
    else
     some (.inl (IntKind.i64.wrap (s18b+1)))
  else
   some (.inr (.inl ()))
def jT (p0:aw) (p1:(List Int)):Option (Bool) :=
 (dh p0).bind fun r1 =>
 (if (!r1) then
  some true
 else
  some ((p1.length:Int)==0)).bind fun s15j1 =>
 if s15j1 then
  some false
 else
  (aW (jA p0 p1) 0).bind fun q=>match q with
  | (.inl _) =>
   some true
  | (.inr rb) =>
   some rb
def fk (p0:aj):Option (Bool) :=
 some (p0.bk==(-1))
def gN (p0:aw) (p1:Int) (p2:ByteArray) (p3:Int) (p4:Int):Option (Bool) :=
 (dh p0).bind fun r1 =>
 (if (!r1) then
  some true
 else
  (ec p1 (IntKind.i64.wrap ((p0.ag.length:Int)-1))).bind fun r8 =>
  some (!r8)).bind fun s23j1 =>
 if s23j1 then
  some false
 else
  (P.idx p0.ag p1).bind fun x4 =>
  if (x4.cD.toList==p2.toList) then
   if (x4.aE==p3) then
    some (x4.aH==p4)
   else
    some false
  else
   some false
def jR (p0:aw) (p1:(List Int)) (p2:Int) (p3:Int) (p4:ByteArray) (p5:Int) (p6:Int):Option (Bool) :=
 (jT p0 p1).bind fun r1 =>
 if (!r1) then
  some false
 else
  (P.idx p1 0).bind fun x3 =>
  (P.idx p0.ag x3).bind fun x4 =>
  (P.idx p1 (IntKind.i64.wrap ((p1.length:Int)-1))).bind fun x5 =>
  if (x4.aE==p2) then
   if (x4.aH==p3) then
    (P.idx p0.ag x5).bind fun x8 =>
    (fk x8).bind fun r9 =>
    if r9 then
     (gN p0 x5 p4 p5 p6).bind fun r11 =>
     some r11
    else
     some false
   else
    some false
  else
   some false
def dW (p0:jN) (p1:aL):Option (Bool) :=
 if decide ((p1.dD.length:Int)>0) then
  (P.idx p1.dD 0).bind fun x2 =>
  if (x2==p0.xL) then
   (P.idx p1.dD (IntKind.i64.wrap ((p1.dD.length:Int)-1))).bind fun x4 =>
   if (x4==p1.ck) then
    (jR p0.TM p1.dD p0.tO p0.tN p1.cD p1.aE p1.aH).bind fun r6 =>
    some r6
   else
    some false
  else
   some false
 else
  some false
def tH:(Int×(List Int))→Option ((Int×(List Int))⊕(((List Int))))
 | (s4b,l5b) =>
  if decide (s4b>0) then
   (gC 8 l5b [IntKind.i64.wrap (mv .and .u64 s4b 1048575)]).bind fun x9 =>
   (uC .u64 s4b 20).bind fun x11 =>
   some (.inl (x11,x9))
  else
   some (.inr l5b)
def sr (p0:Int):Option (ay) :=
 (if decide (p0<0) then
  some ((-1),IntKind.u64.wrap (0-(IntKind.u64.wrap p0)))
 else
  some (1,IntKind.u64.wrap p0)).bind fun q=>match q with
 | (s3j1,s4j1) =>
  (aW (tH) (s4j1,[])).bind fun l5bx =>
  (fw s3j1 l5bx).bind fun r13 =>
  some r13
def nT (p0:Int):Option (aT) :=
 (sr p0).bind fun r1 =>
 (sr 1).bind fun r2 =>
 some (aT.mk r1 r2)
def jx (p0:cr) (p1:aT):Option (Bool) :=
 (fE p0).bind fun r1 =>
 if r1 then
  (eS p1).bind fun r3 =>
  if r3 then
   (e9 p0.bn p1).bind fun r5 =>
   if decide (r5≤0) then
    (e9 p1 p0.aM).bind fun r7 =>
    some (decide (r7≤0))
   else
    some false
  else
   some false
 else
  some false
def dN (p0:aB) (p1:Int) (p2:aT):Option (Bool) :=
 if (p0.ck==p1) then
  (jx p0.bG p2).bind fun r2 =>
  some (!r2)
 else
  some false
def b6 (p0:(List aL)) (p1c0:Int):(Int)→Option ((Int)⊕((Unit)⊕(Int)))
 | s8a =>
  if decide (s8a<(p0.length:Int)) then
   (P.idx p0 s8a).bind fun x7 =>
   (dM x7 p1c0).bind fun r8 =>
   if r8 then
    some (.inr (.inr s8a))
   else
    some (.inl (IntKind.i64.wrap (s8a+1)))
  else
   some (.inr (.inl ()))
def a7 (p0:(List aL)) (p1c0:Int):Option (Int) :=
 (aW (b6 p0 p1c0) 0).bind fun q=>match q with
 | (.inl _) =>
  some (-1)
 | (.inr ra) =>
  some ra
def cd (p0:(List aB)) (p1c0:Int) (p1c1:aT):(Int)→Option ((Int)⊕((Unit)⊕(Int)))
 | s8a =>
  if decide (s8a<(p0.length:Int)) then
   (P.idx p0 s8a).bind fun x7 =>
   (dN x7 p1c0 p1c1).bind fun r8 =>
   if r8 then
    some (.inr (.inr s8a))
   else
    some (.inl (IntKind.i64.wrap (s8a+1)))
  else
   some (.inr (.inl ()))
def bA (p0:(List aB)) (p1c0:Int) (p1c1:aT):Option (Int) :=
 (aW (cd p0 p1c0 p1c1) 0).bind fun q=>match q with
 | (.inl _) =>
  some (-1)
 | (.inr ra) =>
  some ra
def a6 (p0:(List aB)) (p1c0:Int) (p1c1:aT):Option (Bool) :=
 (bA p0 p1c0 p1c1).bind fun r1 =>
 some (decide (r1≥0))
def dL (p0:jN) (p1:Int) (p2:(List aL)) (p3:(List aB)):Option (Int) :=
 (a7 p2 p1).bind fun r1 =>
 if decide (r1<0) then
  some 0
 else
  (P.idx p2 r1).bind fun x3 =>
  (dW p0 x3).bind fun r4 =>
  if (!r4) then
   some 1
  else
   (nT x3.aE).bind fun r6 =>
   (a6 p3 p1 r6).bind fun r7 =>
   if r7 then
    some 2
   else
    some (-1)
def cM (p0:(List aB)):(Int)→Option ((Int)⊕((Unit)⊕(Int)))
 | s8a =>
  if decide (s8a<(p0.length:Int)) then
   (P.idx p0 s8a).bind fun x7 =>
   (ie x7).bind fun r8 =>
   if r8 then
    some (.inr (.inr s8a))
   else
    some (.inl (IntKind.i64.wrap (s8a+1)))
  else
   some (.inr (.inl ()))
def ca (p0:(List aB)):Option (Int) :=
 (aW (cM p0) 0).bind fun q=>match q with
 | (.inl _) =>
  some (-1)
 | (.inr ra) =>
  some ra
def aD (p0:(List aB)):Option (Bool) :=
 (ca p0).bind fun r1 =>
 some (decide (r1≥0))
def dV (p0:aw) (p1:Int) (p2:Int) (p3:Int) (p4:(List Int)) (p5:(List aL)) (p6:(List aB)):(Int×(List bg))→Option ((Int×(List bg))⊕(((List bg))))
 | (s49b,l17b) =>
  if decide (s49b<(p4.length:Int)) then
   (P.idx p4 s49b).bind fun x16 =>
   (dL (jN.mk p0 p1 p2 p3) x16 p5 p6).bind fun r17 =>
   if (r17 != (-1)) then
    (gC 16 l17b [(bg.mk x16 r17)]).bind fun x19 =>
    some (.inl (IntKind.i64.wrap (s49b+1),x19))
   else
    some (.inl (IntKind.i64.wrap (s49b+1),l17b))
  else
   some (.inr l17b)
def ep (p0:aw) (p1:Int) (p2:Int) (p3:Int) (p4:(List Int)) (p5:(List aL)) (p6:(List aB)):Option ((List bg)×Int) :=
 (dh p0).bind fun r1 =>
 (if (!r1) then
  some true
 else
  if decide (p1<0) then
   some true
  else
   some (decide (p1≥(p0.ag.length:Int)))).bind fun s21j1 =>
 if s21j1 then
  some ([],1)
 else
  (aD p6).bind fun r4 =>
  if r4 then
   some ([],1)
  else
   (fK p4).bind fun r6 =>
   if r6 then
    some ([],5)
   else
    (aW (dV p0 p1 p2 p3 p4 p5 p6) (0,[])).bind fun l17bx =>
    some (l17bx,0)
def mj (p0:(List bg)) (p1:(List bg)):(Int)→Option ((Int)⊕((Unit)⊕(Bool)))
 | s5a =>
  if decide (s5a<(p0.length:Int)) then
   (P.idx p0 s5a).bind fun x8 =>
   (P.idx p1 s5a).bind fun x9 =>
   if (!((x8.ck==x9.ck)&&(x8.ky==x9.ky))) then
    some (.inr (.inr false))
   else
    some (.inl (IntKind.i64.wrap (s5a+1)))
  else
   some (.inr (.inl ()))
def mi (p0:(List bg)) (p1:(List bg)):Option (Bool) :=
 if ((p0.length:Int) != (p1.length:Int)) then
  some false
 else
  (aW (mj p0 p1) 0).bind fun q=>match q with
  | (.inl _) =>
   some true
  | (.inr ra) =>
   some ra
def jq (p0:aw) (p1:(List Int)) (p2:Int) (p3:(List aB)) (p4:(List bg)):Option (Bool) :=
 (ep p0 4 60 24 p1 ([(aL.mk 1 ([4,3,1]) (ByteArray.mk #[98]) p2 8)]) p3).bind fun r2 =>
 if (r2.2==0) then
  (mi r2.1 p4).bind fun r4 =>
  some r4
 else
  some false
def strconv_Itoa (p0:Int):Option ByteArray:=Ww p0
def uq (p0:(List Int)):Option ByteArray:=NZ p0
def kb (p0:(List Int)):Option (ByteArray) :=
 (uq p0).bind fun r1 =>
 some r1
def j9 (p0:(List aj)):Option (List aj):=if p0.length≤maxLen then some p0 else none
def lA (p0:aw) (p1:aj):Option (aw×Int×Int) :=
 (dr p0.ag).bind fun r1 =>
 (j9 r1).bind fun r2 =>
 (gC 48 r2 [p1]).bind fun x3 =>
 some ((aw.mk x3),(p0.ag.length:Int),0)
def jU (p0:aw) (p1:ByteArray) (p2:Int) (p3:Int):Option (aw×Int×Int) :=
 (dh p0).bind fun r1 =>
 (if (!r1) then
  some true
 else
  (iW (aj.mk p1 p2 p3 (-1) (-1))).bind fun r7 =>
  some (!r7)).bind fun s16j1 =>
 if s16j1 then
  some ((aw.mk ([])),(-1),1)
 else
  if decide ((p0.ag.length:Int)≥2000) then
   some ((aw.mk ([])),(-1),6)
  else
   (lA p0 (aj.mk p1 p2 p3 (-1) (-1))).bind fun r5 =>
   some (r5.1,r5.2.1,r5.2.2)
def jy (p0:(List Int)) (p1:Int):(Int)→Option ((Int)⊕((Unit)⊕(Bool)))
 | s22b =>
  if decide (s22b<(p0.length:Int)) then
   (P.idx p0 s22b).bind fun x9 =>
   if decide (x9<0) then
    some (.inr (.inr false))
   else
    if decide (x9≥(IntKind.i64.wrap (p1-s22b))) then
     some (.inr (.inr false))
    else
     some (.inl (IntKind.i64.wrap (s22b+1)))
  else
   some (.inr (.inl ()))
def iU (p0:(List Int)) (p1:Int):Option (Bool) :=
 (if decide (p1<0) then
  some true
 else
  if decide (p1>1099511627776) then
   some true
  else
   some (decide ((p0.length:Int)>(if 100<p1 then 100 else p1)))).bind fun s19j1 =>
 if s19j1 then
  some false
 else
  (aW (jy p0 p1) 0).bind fun q=>match q with
  | (.inl _) =>
   some true
  | (.inr rb) =>
   some rb
def jf (p1:Int) (x26:(List Int)):(Int×(List Int))→Option ((Int×(List Int))⊕(((List Int))))
 | (s53f,l8f) =>
  if decide (s53f<(x26.length:Int)) then
   (P.idx x26 s53f).bind fun x37 =>
   (P.idx l8f s53f).bind fun x38 =>
   (uA .i64 (IntKind.i64.wrap (x38+x37)) (IntKind.i64.wrap (p1-s53f))).bind fun x39 =>
   some (.inl (IntKind.i64.wrap (s53f+1),(l8f.set (s53f).toNat x39)))
  else
   some (.inr l8f)
def nx (p0:(List (List Int))) (p1:Int) (p2:Int):(Int×(List Int))→Option ((Int×(List Int))⊕(((List Int))⊕((List Int)×Int)))
 | (s37b,l8b) =>
  if decide (s37b<(p0.length:Int)) then
   (P.idx p0 s37b).bind fun x26 =>
   (if ((x26.length:Int) != p2) then
    some true
   else
    (iU x26 p1).bind fun r43 =>
    some (!r43)).bind fun s50j5 =>
   if s50j5 then
    some (.inr (.inr ([],1)))
   else
    (aW (jf p1 x26) (0,l8b)).bind fun l8fx =>
    some (.inl (IntKind.i64.wrap (s37b+1),l8fx))
  else
   some (.inr (.inl l8b))
def lx (p0:(List (List Int))) (p1:Int) (p2:Int):Option ((List Int)×Int) :=
 (if decide (p2<0) then
  some true
 else
  if decide (p2>100) then
   some true
  else
   if decide (p1<p2) then
    some true
   else
    if decide (p1>1099511627776) then
     some true
    else
     some (decide ((p0.length:Int)>400))).bind fun s32j1 =>
 if s32j1 then
  some ([],1)
 else
  (KU 8 p2 p2 0).bind fun x3 =>
  (aW (nx p0 p1 p2) (0,x3)).bind fun q=>match q with
  | (.inl l8bx) =>
   some (l8bx,0)
  | (.inr rb) =>
   some rb
def jw (p0:(List Int)):Option (List Int):=Ah p0
def bV (p0:(List Int)):Option (List Int):=xa p0
def iV (p0:(List Int)):Option (Bool) :=
 (jw p0).bind fun r1 =>
 (bV r1).bind fun r2 =>
 (iS r2).bind fun r4 =>
 some (decide (((r4).length:Int)<(p0.length:Int)))
def kR (p0:aw) (p1:(List Int)) (p2:(List (List Int))) (p3:(List Int)):(Int)→Option ((Int)⊕((Unit)⊕((List Int)×Int)))
 | s47b =>
  if decide (s47b<(p1.length:Int)) then
   (P.idx p1 s47b).bind fun x16 =>
   (P.idx p2 s47b).bind fun x17 =>
   (kb x17).bind fun r18 =>
   (P.idx p3 s47b).bind fun x19 =>
   (gN p0 x16 r18 0 x19).bind fun r20 =>
   if (!r20) then
    some (.inr (.inr ([],22)))
   else
    some (.inl (IntKind.i64.wrap (s47b+1)))
  else
   some (.inr (.inl ()))
def ka (p0:aw) (p1:(List Int)) (p2:(List (List Int))) (p3:(List Int)) (p4:Int) (p5:Int):Option ((List Int)×Int) :=
 (lx p2 p4 p5).bind fun r1 =>
 if (r1.2 != 0) then
  some ([],r1.2)
 else
  (if ((p1.length:Int) != (p2.length:Int)) then
   some true
  else
   some ((p3.length:Int) != (p2.length:Int))).bind fun s29j1 =>
  if s29j1 then
   some ([],2)
  else
   (iV p1).bind fun r5 =>
   if r5 then
    some ([],5)
   else
    (aW (kR p0 p1 p2 p3) 0).bind fun q=>match q with
    | (.inl _) =>
     some (r1.1,0)
    | (.inr rb) =>
     some rb
def xc (l7a:(List Int)):(Int×Int)→Option ((Int×Int)⊕((Int×Int)))
 | (s9c,s10c) =>
  if decide (s10c<((l7a).length:Int)) then
   (P.idx l7a s10c).bind fun x26 =>
   if decide (x26≤s9c) then
    some (.inl (IntKind.i64.wrap (s9c+1),IntKind.i64.wrap (s10c+1)))
   else
    some (.inr (s9c,s10c))
  else
   some (.inr (s9c,s10c))
def xb (p0:(List Int)):(Int×(List Int)×(List Int))→Option ((Int×(List Int)×(List Int))⊕(((List Int))))
 | (s20a,l6a,l7a) =>
  if decide (s20a<(p0.length:Int)) then
   (P.idx p0 s20a).bind fun x20 =>
   (aW (xc l7a) (x20,0)).bind fun q=>match q with
   | (s9cx,s10cx) =>
    (gC 8 l6a [s9cx]).bind fun x28 =>
    (Vw 8 l7a s10cx [s9cx]).bind fun x30 =>
    some (.inl (IntKind.i64.wrap (s20a+1),x28,x30))
  else
   some (.inr l6a)
def nB (p0:(List Int)) (p1:Int):Option ((List Int)×Int) :=
 (iU p0 p1).bind fun r1 =>
 if (!r1) then
  some ([],1)
 else
  (KU 8 0 (p0.length:Int) 0).bind fun x3 =>
  (aW (xb p0) (0,x3,[])).bind fun l6ax =>
  some (l6ax,0)
def nG (p4:(List Int)) (r5:(List Int)×Int):(Int×(List Int))→Option ((Int×(List Int))⊕(((List Int))))
 | (s46a,l18a) =>
  if decide (s46a<(r5.1.length:Int)) then
   (P.idx r5.1 s46a).bind fun x13 =>
   (P.idx p4 x13).bind fun x14 =>
   (gC 8 l18a [x14]).bind fun x15 =>
   some (.inl (IntKind.i64.wrap (s46a+1),x15))
  else
   some (.inr l18a)
def iN (p0:aw) (p1:(List Int)) (p2:(List (List Int))) (p3:(List Int)) (p4:(List Int)) (p5:Int):Option ((List Int)×Int) :=
 (ka p0 p1 p2 p3 (p4.length:Int) p5).bind fun r1 =>
 if (r1.2 != 0) then
  some ([],r1.2)
 else
  (fK p4).bind fun r3 =>
  if r3 then
   some ([],5)
  else
   (nB r1.1 (p4.length:Int)).bind fun r5 =>
   (aW (nG p4 r5) (0,[])).bind fun l18ax =>
   some (l18ax,0)
def ll:Option (Bool) :=
 (gX (aw.mk ([])) ([ByteArray.mk #[97],ByteArray.mk #[98],ByteArray.mk #[99]]) ([30,20,10]) ([7,8,9])).bind fun r2 =>
 (if (r2.2.2.2 != 0) then
  some true
 else
  if (r2.2.1 != 4) then
   some true
  else
   (fU r2.2.2.1 ([0,1,2])).bind fun r35 =>
   some (!r35)).bind fun s37j1 =>
 if s37j1 then
  some false
 else
  (gJ 19 21).bind fun r5 =>
  (gJ 21 22).bind fun r6 =>
  (jq r2.1 ([1]) 20 ([(aB.mk 1 r5)]) ([])).bind fun r8 =>
  (if r8 then
   (jq r2.1 ([1,2]) 20 ([]) ([(bg.mk 2 0)])).bind fun r28 =>
   if r28 then
    (jq r2.1 ([1]) 21 ([]) ([(bg.mk 1 1)])).bind fun r31 =>
    some r31
   else
    some false
  else
   some false).bind fun s7j2 =>
  (jq r2.1 ([1]) 20 ([(aB.mk 1 r5),(aB.mk 1 r6)]) ([(bg.mk 1 2)])).bind fun r11 =>
  (ep r2.1 4 60 24 ([1,1]) ([]) ([])).bind fun r13 =>
  (kb ([2,0])).bind fun r15 =>
  (jU r2.1 r15 0 5).bind fun r16 =>
  (iN r16.1 ([r16.2.1]) ([[2,0]]) ([5]) r2.2.2.1 2).bind fun r18 =>
  if s7j2 then
   if r11 then
    if (r13.2==5) then
     if (r16.2.2==0) then
      if (r18.2==0) then
       (fU r18.1 ([2,0])).bind fun r25 =>
       some r25
      else
       some false
     else
      some false
    else
     some false
   else
    some false
  else
   some false
def q9 (p0:aw) (p1:Int):(Int)→Option ((Int)⊕((Unit)⊕(Bool)))
 | s5a =>
  (if decide (s5a<(p0.ag.length:Int)) then
   some (decide (s5a<p1))
  else
   some false).bind fun s15j3 =>
  if s15j3 then
   (P.idx p0.ag s5a).bind fun x9 =>
   if decide ((x9.cD.size:Int)>100) then
    some (.inr (.inr false))
   else
    some (.inl (IntKind.i64.wrap (s5a+1)))
  else
   some (.inr (.inl ()))
def q8 (p0:aw) (p1:Int):Option (Bool) :=
 (aW (q9 p0 p1) 0).bind fun q=>match q with
 | (.inl _) =>
  some (decide ((p0.ag.length:Int)≤p1))
 | (.inr ra) =>
  some ra
def oQ (p0:aT) (p1:Int):Option (Bool) :=
 if decide ((p0.cu.aa.length:Int)≤p1) then
  some (decide ((p0.ct.aa.length:Int)≤p1))
 else
  some false
def qZ (p0:cr) (p1:Int):Option (Bool) :=
 (oQ p0.bn p1).bind fun r1 =>
 if r1 then
  (oQ p0.aM p1).bind fun r3 =>
  some r3
 else
  some false
def tq (p0:ay) (p1:ay):(Int)→Option ((Int)⊕((Unit)⊕(Bool)))
 | s5b =>
  if decide (s5b<(p0.aa.length:Int)) then
   (P.idx p0.aa s5b).bind fun x9 =>
   (P.idx p1.aa s5b).bind fun x10 =>
   if (x9 != x10) then
    some (.inr (.inr false))
   else
    some (.inl (IntKind.i64.wrap (s5b+1)))
  else
   some (.inr (.inl ()))
def w8 (p0:ay) (p1:ay):Option (Bool) :=
 (if (p0.ah != p1.ah) then
  some true
 else
  some ((p0.aa.length:Int) != (p1.aa.length:Int))).bind fun s19j1 =>
 if s19j1 then
  some false
 else
  (aW (tq p0 p1) 0).bind fun q=>match q with
  | (.inl _) =>
   some true
  | (.inr rb) =>
   some rb
def mc (p0:ay) (p1:ay):Option (Int) :=
 (dc p0).bind fun r1 =>
 (if (!r1) then
  some true
 else
  (dc p1).bind fun r9 =>
  if (!r9) then
   some true
  else
   (w8 p0 p1).bind fun r11 =>
   some r11).bind fun s17j1 =>
 if s17j1 then
  some 0
 else
  if (p0.ah != p1.ah) then
   if decide (p0.ah<p1.ah) then
    some (-1)
   else
    some 1
  else
   (me p0.aa p1.aa).bind fun r6 =>
   if (r6==(decide (p0.ah>0))) then
    some (-1)
   else
    some 1
def lu (p0:aT):Option (Bool) :=
 (dc p0.cu).bind fun r1 =>
 (if (!r1) then
  some true
 else
  (dc p0.ct).bind fun r8 =>
  if (!r8) then
   some true
  else
   some (decide (p0.ct.ah<1))).bind fun s20j1 =>
 if s20j1 then
  some false
 else
  (nn p0.cu p0.ct).bind fun r4 =>
  (qX 1).bind fun r5 =>
  (mc r4.1 r5).bind fun r6 =>
  some (r6==0)
def uf (p0:ay) (p1:ay):Option (ay×Int) :=
 (dc p0).bind fun r1 =>
 (if (!r1) then
  some true
 else
  (dc p1).bind fun r7 =>
  some (!r7)).bind fun s13j1 =>
 if s13j1 then
  some ((ay.mk 0 ([])),1)
 else
  (je p0.aa p1.aa).bind fun r4 =>
  (eV (IntKind.i64.wrap (p0.ah*p1.ah)) r4).bind fun r5 =>
  some (r5,0)
def mh (p0:aT) (p1:aT):Option (Int) :=
 (lu p0).bind fun r1 =>
 (if (!r1) then
  some true
 else
  (lu p1).bind fun r8 =>
  some (!r8)).bind fun s16j1 =>
 if s16j1 then
  some 0
 else
  (uf p0.cu p1.ct).bind fun r4 =>
  (uf p1.cu p0.ct).bind fun r5 =>
  (mc r4.1 r5.1).bind fun r6 =>
  some r6
def uh (p0:cr):Option (Bool) :=
 (lu p0.bn).bind fun r1 =>
 if r1 then
  (lu p0.aM).bind fun r3 =>
  if r3 then
   (mh p0.bn p0.aM).bind fun r5 =>
   some (decide (r5≤0))
  else
   some false
 else
  some false
def G9 (p0:cr) (p1:aT):Option (Bool) :=
 (uh p0).bind fun r1 =>
 if r1 then
  (lu p1).bind fun r3 =>
  if r3 then
   (mh p0.bn p1).bind fun r5 =>
   if decide (r5≤0) then
    (mh p1 p0.aM).bind fun r7 =>
    some (decide (r7≤0))
   else
    some false
  else
   some false
 else
  some false
def rf (p0:(List ByteArray)) (p1:Int):(Int)→Option ((Int)⊕((Unit)⊕(Bool)))
 | s5a =>
  (if decide (s5a<(p0.length:Int)) then
   some (decide (s5a≤p1))
  else
   some false).bind fun s14j3 =>
  if s14j3 then
   (P.idx p0 s5a).bind fun x11 =>
   if decide ((x11.size:Int)>100) then
    if decide ((x11.size:Int)≤8000) then
     some (.inr (.inr false))
    else
     if decide ((x11.size:Int)>8100) then
      some (.inr (.inr false))
     else
      some (.inl (IntKind.i64.wrap (s5a+1)))
   else
    some (.inl (IntKind.i64.wrap (s5a+1)))
  else
   some (.inr (.inl ()))
def re (p0:(List ByteArray)) (p1:Int):Option (Bool) :=
 (aW (rf p0 p1) 0).bind fun q=>match q with
 | (.inl _) =>
  some (decide ((p0.length:Int)≤p1))
 | (.inr ra) =>
  some ra
def qL (p0:eP):Option (Bool) :=
 (re p0.aZ 12).bind fun r1 =>
 if r1 then
  if decide ((p0.aQ.length:Int)≤12) then
   some (decide ((p0.bt.length:Int)≤12))
  else
   some false
 else
  some false
def jO (p0:aw) (p1:eP):Option (aw×Int×(List Int)×Bool) :=
 (gX p0 p1.aZ p1.aQ p1.bt).bind fun r1 =>
 if (r1.2.2.2==0) then
  if ((r1.2.2.1.length:Int)==(p1.aZ.length:Int)) then
   if ((p1.aQ.length:Int)==(p1.aZ.length:Int)) then
    some (r1.1,r1.2.1,r1.2.2.1,((p1.bt.length:Int)==(p1.aZ.length:Int)))
   else
    some (r1.1,r1.2.1,r1.2.2.1,false)
  else
   some (r1.1,r1.2.1,r1.2.2.1,false)
 else
  some (r1.1,r1.2.1,r1.2.2.1,false)
def eL (p0:aw):(Int×(List Bool))→Option ((Int×(List Bool))⊕(((List Bool))))
 | (s6a,l5a) =>
  if decide (s6a<((l5a).length:Int)) then
   (P.idx p0.ag s6a).bind fun x20 =>
   (fk x20).bind fun r21 =>
   if (!r21) then
    (P.idx l5a x20.bk).bind fun x23 =>
    if x23 then
     (P.idx l5a s6a).bind fun x25 =>
     some (.inl (IntKind.i64.wrap (s6a+1),(l5a.set (s6a).toNat true)))
    else
     (P.idx l5a x20.bd).bind fun x27 =>
     (P.idx l5a s6a).bind fun x28 =>
     some (.inl (IntKind.i64.wrap (s6a+1),(l5a.set (s6a).toNat x27)))
   else
    (P.idx l5a s6a).bind fun x30 =>
    some (.inl (IntKind.i64.wrap (s6a+1),(l5a.set (s6a).toNat false)))
  else
   some (.inr l5a)
def jS (p0:aw) (p1:Int):Option ((List Bool)) :=
 (KU 1 (p0.ag.length:Int) (p0.ag.length:Int) false).bind fun x1 =>
 (P.idx x1 p1).bind fun x3 =>
 (aW (eL p0) (IntKind.i64.wrap (p1+1),(x1.set (p1).toNat true))).bind fun l5ax =>
 some l5ax
def fZ (p0:aw) (p2:Int) (r4:(List Bool)):(Int×(List Int))→Option ((Int×(List Int))⊕(((List Int))))
 | (s9b,l8b) =>
  if (s9b != p2) then
   (P.idx p0.ag s9b).bind fun x17 =>
   (P.idx r4 (if x17.bd<x17.bk then x17.bd else x17.bk)).bind fun x18 =>
   if (!x18) then
    (gC 8 l8b [(if x17.bd>x17.bk then x17.bd else x17.bk)]).bind fun x20 =>
    some (.inl ((if x17.bd>x17.bk then x17.bd else x17.bk),x20))
   else
    (gC 8 l8b [(if x17.bd<x17.bk then x17.bd else x17.bk)]).bind fun x22 =>
    some (.inl ((if x17.bd<x17.bk then x17.bd else x17.bk),x22))
  else
   some (.inr l8b)
def ly (p0:aw) (p1:Int) (p2:Int):Option ((List Int)) :=
 (dh p0).bind fun r1 =>
 (if (!r1) then
  some true
 else
  (kS p0 p1).bind fun r25 =>
  if (!r25) then
   some true
  else
   (kS p0 p2).bind fun r27 =>
   some (!r27)).bind fun s27j1 =>
 if s27j1 then
  some ([])
 else
  (jS p0 p2).bind fun r4 =>
  (P.idx r4 p1).bind fun x5 =>
  if (!x5) then
   some ([])
  else
   (aW (fZ p0 p2 r4) (p1,[p1])).bind fun l8bx =>
   some l8bx
def jo (p0:aw) (p1:Int) (p2:(List Int)) (p3:eP) (p4:Int):Option (aL) :=
 (P.idx p2 p4).bind fun x1 =>
 (ly p0 p1 x1).bind fun r2 =>
 (P.idx p3.aZ p4).bind fun x3 =>
 (P.idx p3.aQ p4).bind fun x4 =>
 (P.idx p3.bt p4).bind fun x5 =>
 some (aL.mk x1 r2 x3 x4 x5)
def ja (p0:(List Int)):(Int×Int)→Option ((Int×Int)⊕((Int)))
 | (s3a,s4a) =>
  if decide (s4a<(p0.length:Int)) then
   (P.idx p0 s4a).bind fun x5 =>
   some (.inl (IntKind.i64.wrap (s3a+x5),IntKind.i64.wrap (s4a+1)))
  else
   some (.inr s3a)
def ik (p0:(List Int)):Option (Int) :=
 (aW (ja p0) (0,0)).bind fun s3ax =>
 some s3ax
def eF (p1:eP) (p2:Int) (p3:(List cr)) (r1:Bool) (r5:aw×Int×(List Int)×Bool):(Int×(List Int)×(List aL)×(List aB)×(List bg))→Option ((Int×(List Int)×(List aL)×(List aB)×(List bg))⊕(((List Int)×(List aL)×(List aB)×(List bg))⊕(Bool)))
 | (s18b,l14b,l15b,l16b,l17b) =>
  if decide (s18b<(r5.2.2.1.length:Int)) then
   (uC .u16 p2 s18b).bind fun x34 =>
   if ((mv .and .u16 x34 1)==0) then
    some (.inl (IntKind.i64.wrap (s18b+1),l14b,l15b,l16b,l17b))
   else
    (P.idx r5.2.2.1 s18b).bind fun x37 =>
    (gC 8 l14b [x37]).bind fun x38 =>
    (jo r5.1 r5.2.1 r5.2.2.1 p1 s18b).bind fun r40 =>
    (gC 64 l15b [r40]).bind fun x41 =>
    if decide (s18b<(p3.length:Int)) then
     (P.idx p3 s18b).bind fun x44 =>
     (qZ x44 4).bind fun r45 =>
     (if (!r45) then
      some true
     else
      (fE x44).bind fun r57 =>
      some (!r57)).bind fun s95j4 =>
     if s95j4 then
      some (.inr (.inr r1))
     else
      (gC 136 l16b [(aB.mk x37 x44)]).bind fun x48 =>
      (P.idx p1.aQ s18b).bind fun x50 =>
      (nw x50).bind fun r51 =>
      (jx x44 r51).bind fun r52 =>
      if (!r52) then
       (gC 16 l17b [(bg.mk x37 2)]).bind fun x54 =>
       some (.inl (IntKind.i64.wrap (s18b+1),x38,x41,x48,x54))
      else
       some (.inl (IntKind.i64.wrap (s18b+1),x38,x41,x48,l17b))
    else
     some (.inl (IntKind.i64.wrap (s18b+1),x38,x41,l16b,l17b))
  else
   some (.inr (.inl (l14b,l15b,l16b,l17b)))
def er (p0:aw) (p1:eP) (p2:Int) (p3:(List cr)):Option (Bool) :=
 (ll).bind fun r1 =>
 (q8 p0 20).bind fun r2 =>
 (if (!r2) then
  some true
 else
  (qL p1).bind fun r65 =>
  if (!r65) then
   some true
  else
   some (decide ((p3.length:Int)>12))).bind fun s34j1 =>
 if s34j1 then
  some r1
 else
  (jO p0 p1).bind fun r5 =>
  if (!r5.2.2.2) then
   some r1
  else
   (aW (eF p1 p2 p3 r1 r5) (0,[],[],[],[])).bind fun q=>match q with
   | (.inl (l14bx,l15bx,l16bx,l17bx)) =>
    (ik p1.aQ).bind fun r58 =>
    (ik p1.bt).bind fun r59 =>
    (ep r5.1 r5.2.1 r58 r59 l14bx l15bx l16bx).bind fun r60 =>
    if r1 then
     if (r60.2==0) then
      (mi r60.1 l17bx).bind fun r63 =>
      some r63
     else
      some false
    else
     some false
   | (.inr rb) =>
    some rb
end Go.Proofs.YtpkahnkoecbndaaGreatDoor.P
namespace Go.Proofs.YtpkahnkoecbndaaGreatDoor.Am
open Go.RowKit Go.Proofs.YtpkahnkoecbndaaGreatDoor.P
set_option maxRecDepth 100000
set_option maxHeartbeats 4000000
set_option linter.unusedSimpArgs false
set_option linter.unusedVariables false
theorem Yv:type_of% (ai @U5<|ai @OI<|ai @U6<|ai @U7<|ai @OJ<|ai @Sv<|ai @Sw<|ai @Mj<|ai @Sx<|ai @Hg<|ai @Mk<|ai @Sy<|ai @Sz<|ai @SA<|ai @SB<|ai @SC<|ai @SD<|ai @Ml<|ai @SE<|ai @Mm<|ai @SF<|ai @Hh<|ai @SG<|ai @SH<|ai @Mn<|ai @SI<|ai @Hi<|ai @Mo<|ai @Hj<|ai @SJ<|ai @SK<|ai @SL<|ai @SM<|ai @SN<|ai @Hk<|ai @SO<|ai @SP<|ai @Ou<|ai @Ov<|ai @Ow<|ai @Ox<|ai @Oy<|ai @Oz<|ai @OA<|ai @OB<|ai @OC<|ai @OD<|ai @OE<|ai @OF<|ai @OG<|@OH):=⟨@U5,@OI,@U6,@U7,@OJ,@Sv,@Sw,@Mj,@Sx,@Hg,@Mk,@Sy,@Sz,@SA,@SB,@SC,@SD,@Ml,@SE,@Mm,@SF,@Hh,@SG,@SH,@Mn,@SI,@Hi,@Mo,@Hj,@SJ,@SK,@SL,@SM,@SN,@Hk,@SO,@SP,@Ou,@Ov,@Ow,@Ox,@Oy,@Oz,@OA,@OB,@OC,@OD,@OE,@OF,@OG,@OH⟩
def ib:jC ay:=zF (kv (eI .i64) (pQ (eI .i64))) (fun x=>(x.ah,x.aa)) (by rintro⟨⟩ ⟨⟩ h;simpa using h)
theorem yN (x:ay):ib.cells x=[.int .i64 x.ah,.sl false false x.aa.length (ab (eI .i64) x.aa)]:=Eq.trans rfl rfl
theorem Bd:ib.size=2:=Eq.trans rfl rfl
theorem Iz (x:ay):ay.mk x.ah x.aa=x:=Eq.trans rfl rfl
def lj:jC aT:=zF (kv ib ib) (fun x=>(x.cu,x.ct)) (by rintro⟨⟩ ⟨⟩ h;simpa using h)
theorem wh (x:aT):lj.cells x=[.int .i64 x.cu.ah,.sl false false x.cu.aa.length (ab (eI .i64) x.cu.aa),.int .i64 x.ct.ah,.sl false false x.ct.aa.length (ab (eI .i64) x.ct.aa)]:=Eq.trans rfl rfl
theorem yO:lj.size=4:=Eq.trans rfl rfl
theorem EH (x:aT):aT.mk x.cu x.ct=x:=Eq.trans rfl rfl
def eZ:jC cr:=zF (kv lj lj) (fun x=>(x.bn,x.aM)) (by rintro⟨⟩ ⟨⟩ h;simpa using h)
theorem wm (x:cr):eZ.cells x=[.int .i64 x.bn.cu.ah,.sl false false x.bn.cu.aa.length (ab (eI .i64) x.bn.cu.aa),.int .i64 x.bn.ct.ah,.sl false false x.bn.ct.aa.length (ab (eI .i64) x.bn.ct.aa),.int .i64 x.aM.cu.ah,.sl false false x.aM.cu.aa.length (ab (eI .i64) x.aM.cu.aa),.int .i64 x.aM.ct.ah,.sl false false x.aM.ct.aa.length (ab (eI .i64) x.aM.ct.aa)]:=Eq.trans rfl rfl
theorem yQ:eZ.size=8:=Eq.trans rfl rfl
theorem EJ (x:cr):cr.mk x.bn x.aM=x:=Eq.trans rfl rfl
def bc:jC aB:=zF (kv (eI .i64) eZ) (fun x=>(x.ck,x.bG)) (by rintro⟨⟩ ⟨⟩ h;simpa using h)
theorem rE (x:aB):bc.cells x=[.int .i64 x.ck,.int .i64 x.bG.bn.cu.ah,.sl false false x.bG.bn.cu.aa.length (ab (eI .i64) x.bG.bn.cu.aa),.int .i64 x.bG.bn.ct.ah,.sl false false x.bG.bn.ct.aa.length (ab (eI .i64) x.bG.bn.ct.aa),.int .i64 x.bG.aM.cu.ah,.sl false false x.bG.aM.cu.aa.length (ab (eI .i64) x.bG.aM.cu.aa),.int .i64 x.bG.aM.ct.ah,.sl false false x.bG.aM.ct.aa.length (ab (eI .i64) x.bG.aM.ct.aa)]:=Eq.trans rfl rfl
theorem sI:bc.size=9:=Eq.trans rfl rfl
theorem wz (x:aB):aB.mk x.ck x.bG=x:=Eq.trans rfl rfl
def sG:jC eP:=zF (kv (pQ fF) (kv (pQ (eI .i64)) (pQ (eI .i64)))) (fun x=>(x.aZ,x.aQ,x.bt)) (by rintro⟨⟩ ⟨⟩ h;simpa using h)
theorem wk (x:eP):sG.cells x=[.sl false false x.aZ.length (ab fF x.aZ),.sl false false x.aQ.length (ab (eI .i64) x.aQ),.sl false false x.bt.length (ab (eI .i64) x.bt)]:=Eq.trans rfl rfl
theorem yP:sG.size=3:=Eq.trans rfl rfl
theorem EI (x:eP):eP.mk x.aZ x.aQ x.bt=x:=Eq.trans rfl rfl
def bU:jC aL:=zF (kv (eI .i64) (kv (pQ (eI .i64)) (kv fF (kv (eI .i64) (eI .i64))))) (fun x=>(x.ck,x.dD,x.cD,x.aE,x.aH)) (by rintro⟨⟩ ⟨⟩ h;simpa using h)
theorem rF (x:aL):bU.cells x=[.int .i64 x.ck,.sl false false x.dD.length (ab (eI .i64) x.dD),.str x.cD,.int .i64 x.aE,.int .i64 x.aH]:=Eq.trans rfl rfl
theorem sJ:bU.size=5:=Eq.trans rfl rfl
theorem wB (x:aL):aL.mk x.ck x.dD x.cD x.aE x.aH=x:=Eq.trans rfl rfl
def bJ:jC bg:=zF (kv (eI .i64) (eI .i64)) (fun x=>(x.ck,x.ky)) (by rintro⟨⟩ ⟨⟩ h;simpa using h)
theorem rD (x:bg):bJ.cells x=[.int .i64 x.ck,.int .i64 x.ky]:=Eq.trans rfl rfl
theorem sF:bJ.size=2:=Eq.trans rfl rfl
theorem wy (x:bg):bg.mk x.ck x.ky=x:=Eq.trans rfl rfl
def al:jC aj:=zF (kv fF (kv (eI .i64) (kv (eI .i64) (kv (eI .i64) (eI .i64))))) (fun x=>(x.cD,x.aE,x.aH,x.bk,x.bd)) (by rintro⟨⟩ ⟨⟩ h;simpa using h)
theorem uN (x:aj):al.cells x=[.str x.cD,.int .i64 x.aE,.int .i64 x.aH,.int .i64 x.bk,.int .i64 x.bd]:=Eq.trans rfl rfl
theorem wo:al.size=5:=Eq.trans rfl rfl
theorem Bp (x:aj):aj.mk x.cD x.aE x.aH x.bk x.bd=x:=Eq.trans rfl rfl
def dQ:jC aw:=zF (pQ al) (fun x=>(x.ag)) (by rintro⟨⟩ ⟨⟩ h;simpa using h)
theorem uO (x:aw):dQ.cells x=[.sl false false x.ag.length (ab al x.ag)]:=Eq.trans rfl rfl
theorem wq:dQ.size=1:=Eq.trans rfl rfl
theorem Bq (x:aw):aw.mk x.ag=x:=Eq.trans rfl rfl
def zZ:jC jN:=zF (kv dQ (kv (eI .i64) (kv (eI .i64) (eI .i64)))) (fun x=>(x.TM,x.xL,x.tO,x.tN)) (by rintro⟨⟩ ⟨⟩ h;simpa using h)
theorem uP (x:jN):zZ.cells x=[.sl false false x.TM.ag.length (ab al x.TM.ag),.int .i64 x.xL,.int .i64 x.tO,.int .i64 x.tN]:=Eq.trans rfl rfl
theorem wv:zZ.size=4:=Eq.trans rfl rfl
theorem Br (x:jN):jN.mk x.TM x.xL x.tO x.tN=x:=Eq.trans rfl rfl
def EB:jC vS:=zF dQ (fun x=>(x.z8)) (by rintro⟨⟩ ⟨⟩ h;simpa using h)
theorem rG (x:vS):EB.cells x=[.sl false false x.z8.ag.length (ab al x.z8.ag)]:=Eq.trans rfl rfl
theorem sK:EB.size=1:=Eq.trans rfl rfl
theorem wC (x:vS):vS.mk x.z8=x:=Eq.trans rfl rfl
theorem UC {l:List _} : (ab (eI .i64) l).length=l.length*1:=cL _ l
theorem Mp {l:List _} : (ab (eI .i64) l).take (l.length*1)=ab (eI .i64) l:=by
 have:=fm (eI .i64) l l.length
 rw[List.take_length]at this
 exact this
theorem SQ {l:List _} {i:Nat} {x:_} : (ab (eI .i64) (l.set i x)).take (l.length*1)=ab (eI .i64) (l.set i x):=by
 have:=@Mp (l.set i x)
 rwa [List.length_set]at this
theorem UD {l:List _} : (ab (eI .u8) l).length=l.length*1:=cL _ l
theorem Mq {l:List _} : (ab (eI .u8) l).take (l.length*1)=ab (eI .u8) l:=by
 have:=fm (eI .u8) l l.length
 rw[List.take_length]at this
 exact this
theorem SR {l:List _} {i:Nat} {x:_} : (ab (eI .u8) (l.set i x)).take (l.length*1)=ab (eI .u8) (l.set i x):=by
 have:=@Mq (l.set i x)
 rwa [List.length_set]at this
theorem UE {l:List _} : (ab (pQ (eI .i64)) l).length=l.length*1:=cL _ l
theorem Mr {l:List _} : (ab (pQ (eI .i64)) l).take (l.length*1)=ab (pQ (eI .i64)) l:=by
 have:=fm (pQ (eI .i64)) l l.length
 rw[List.take_length]at this
 exact this
theorem SS {l:List _} {i:Nat} {x:_} : (ab (pQ (eI .i64)) (l.set i x)).take (l.length*1)=ab (pQ (eI .i64)) (l.set i x):=by
 have:=@Mr (l.set i x)
 rwa [List.length_set]at this
theorem UF {l:List _} : (ab gr l).length=l.length*1:=cL _ l
theorem Ms {l:List _} : (ab gr l).take (l.length*1)=ab gr l:=by
 have:=fm gr l l.length
 rw[List.take_length]at this
 exact this
theorem SU {l:List _} {i:Nat} {x:_} : (ab gr (l.set i x)).take (l.length*1)=ab gr (l.set i x):=by
 have:=@Ms (l.set i x)
 rwa [List.length_set]at this
theorem UG {l:List _} : (ab fF l).length=l.length*1:=cL _ l
theorem Mt {l:List _} : (ab fF l).take (l.length*1)=ab fF l:=by
 have:=fm fF l l.length
 rw[List.take_length]at this
 exact this
theorem SV {l:List _} {i:Nat} {x:_} : (ab fF (l.set i x)).take (l.length*1)=ab fF (l.set i x):=by
 have:=@Mt (l.set i x)
 rwa [List.length_set]at this
theorem UH {l:List _} : (ab bJ l).length=l.length*2:=cL _ l
theorem Mu {l:List _} : (ab bJ l).take (l.length*2)=ab bJ l:=by
 have:=fm bJ l l.length
 rw[List.take_length]at this
 exact this
theorem SW {l:List _} {i:Nat} {x:_} : (ab bJ (l.set i x)).take (l.length*2)=ab bJ (l.set i x):=by
 have:=@Mu (l.set i x)
 rwa [List.length_set]at this
theorem UI {l:List _} : (ab bc l).length=l.length*9:=cL _ l
theorem Mv {l:List _} : (ab bc l).take (l.length*9)=ab bc l:=by
 have:=fm bc l l.length
 rw[List.take_length]at this
 exact this
theorem SX {l:List _} {i:Nat} {x:_} : (ab bc (l.set i x)).take (l.length*9)=ab bc (l.set i x):=by
 have:=@Mv (l.set i x)
 rwa [List.length_set]at this
theorem UJ {l:List _} : (ab bU l).length=l.length*5:=cL _ l
theorem Mw {l:List _} : (ab bU l).take (l.length*5)=ab bU l:=by
 have:=fm bU l l.length
 rw[List.take_length]at this
 exact this
theorem SY {l:List _} {i:Nat} {x:_} : (ab bU (l.set i x)).take (l.length*5)=ab bU (l.set i x):=by
 have:=@Mw (l.set i x)
 rwa [List.length_set]at this
theorem UK {l:List _} : (ab eZ l).length=l.length*8:=cL _ l
theorem Mx {l:List _} : (ab eZ l).take (l.length*8)=ab eZ l:=by
 have:=fm eZ l l.length
 rw[List.take_length]at this
 exact this
theorem SZ {l:List _} {i:Nat} {x:_} : (ab eZ (l.set i x)).take (l.length*8)=ab eZ (l.set i x):=by
 have:=@Mx (l.set i x)
 rwa [List.length_set]at this
theorem UL {l:List _} : (ab al l).length=l.length*5:=cL _ l
theorem My {l:List _} : (ab al l).take (l.length*5)=ab al l:=by
 have:=fm al l l.length
 rw[List.take_length]at this
 exact this
theorem S4 {l:List _} {i:Nat} {x:_} : (ab al (l.set i x)).take (l.length*5)=ab al (l.set i x):=by
 have:=@My (l.set i x)
 rwa [List.length_set]at this
theorem XL:type_of% (ai @wg<|ai @yM<|ai @Bc<|ai @xJ<|ai @Nz<|ai @Bb<|ai @EA<|ai @Iv<|ai @wx<|ai @yN<|ai @Bd<|ai @wh<|ai @yO<|ai @wm<|ai @yQ<|ai @rE<|ai @sI<|ai @wk<|ai @yP<|ai @rF<|ai @sJ<|ai @rD<|ai @sF<|ai @uN<|ai @wo<|ai @uO<|ai @wq<|ai @uP<|ai @wv<|ai @rG<|@sK):=⟨@wg,@yM,@Bc,@xJ,@Nz,@Bb,@EA,@Iv,@wx,@yN,@Bd,@wh,@yO,@wm,@yQ,@rE,@sI,@wk,@yP,@rF,@sJ,@rD,@sF,@uN,@wo,@uO,@wq,@uP,@wv,@rG,@sK⟩
theorem Yu:type_of% (ai @aN<|ai @Iz<|ai @EH<|ai @EJ<|ai @wz<|ai @EI<|ai @wB<|ai @wy<|ai @Bp<|ai @Bq<|ai @Br<|ai @wC<|ai @UC<|ai @Mp<|ai @SQ<|ai @UD<|ai @Mq<|ai @SR<|ai @UE<|ai @Mr<|ai @SS<|ai @UF<|ai @Ms<|ai @SU<|ai @UG<|ai @Mt<|ai @SV<|ai @UH<|ai @Mu<|ai @SW<|ai @UI<|ai @Mv<|ai @SX<|ai @UJ<|ai @Mw<|ai @SY<|ai @UK<|ai @Mx<|ai @SZ<|ai @UL<|ai @My<|@S4):=⟨@aN,@Iz,@EH,@EJ,@wz,@EI,@wB,@wy,@Bp,@Bq,@Br,@wC,@UC,@Mp,@SQ,@UD,@Mq,@SR,@UE,@Mr,@SS,@UF,@Ms,@SU,@UG,@Mt,@SV,@UH,@Mu,@SW,@UI,@Mv,@SX,@UJ,@Mw,@SY,@UK,@Mx,@SZ,@UL,@My,@S4⟩
theorem w:type_of% (ai @v<|ai @Yv<|ai @XL<|ai @Yu<|@vi):=⟨@v,@Yv,@XL,@Yu,@vi⟩
theorem bZ:type_of% (ai @XL<|ai @List.cons_append.{0}<|ai @List.nil_append.{0}<|ai @List.length_nil.{0}<|ai @List.drop_succ_cons.{0}<|@List.drop_zero.{0}):=⟨@XL,@List.cons_append.{0},@List.nil_append.{0},@List.length_nil.{0},@List.drop_succ_cons.{0},@List.drop_zero.{0}⟩
noncomputable def iM:=eN (dU (aI .i64) (dR (aI .i64))) (fun x:Int×Int=>ec x.1 x.2) (fun r:Bool =>.clean (.bool r))
theorem gz (p0:Int) (p1:Int):iM none [.int .i64 p0,.int .i64 p1]=(ec p0 p1).map fun r:Bool=>(.clean (.bool r),none):=aJ _ _ _ (p0,p1)
theorem BX (p0:Int) (p1:Int) (r:Bool) (hh:ec p0 p1=some r):aP .clean tab aV FU Tryz.f91 none [.int .i64 p0,.int .i64 p1]=some (.clean (.bool r),none):=by
 refine ax rfl Tryz.ntmps91 Tryz.results91 ?_
 unfold ec at hh
 try simp only[w,seval,-Int.reduceToNat]
 refine sp bB hh (fun _ hh =>?_) (fun _ hh =>?_)
 ·cases hh
  try simp only[w,seval,-Int.reduceToNat]
 ·cases hh
  try simp only[w,seval,-Int.reduceToNat]
theorem mz:bM Tryz.prog 91 iM:=bM.of (mode := .clean) tok bR.none mixed Tryz.func91 (by kernel_rfl) ⟨by kernel_rfl,by kernel_rfl⟩ (fun _=>Nat.le_of_ble_eq_true (by kernel_rfl)) (fun x r h=>BX x.1 x.2 r h)
noncomputable def mI:=eN (dR (dm al)) (fun x:aj=>iW x) (fun r:Bool =>.clean (.bool r))
theorem nk (p0_0:ByteArray) (p0_1:Int) (p0_2:Int) (p0_3:Int) (p0_4:Int):mI none [.agg [.str p0_0,.int .i64 p0_1,.int .i64 p0_2,.int .i64 p0_3,.int .i64 p0_4]]=(iW (aj.mk p0_0 p0_1 p0_2 p0_3 p0_4)).map fun r:Bool=>(.clean (.bool r),none):=aJ _ _ _ ((aj.mk p0_0 p0_1 p0_2 p0_3 p0_4))
noncomputable def mX:Env:=(Am.ext aV 91 false iM)
theorem Dc:bR Tryz.prog mX:=(bR.none.add mz false)
theorem dt:type_of% (ai @w<|ai @gz<|@mX.eq_1):=⟨@w,@gz,@mX.eq_1⟩
theorem GL (p0:aj) (r:Bool) (hh:iW p0=some r):aP .clean tab mX FU Tryz.f51 none [.agg [.str p0.cD,.int .i64 p0.aE,.int .i64 p0.aH,.int .i64 p0.bk,.int .i64 p0.bd]]=some (.clean (.bool r),none):=by
 refine ax rfl Tryz.ntmps51 Tryz.results51 ?_
 unfold iW at hh
 try simp only[dt,seval,-Int.reduceToNat]
 obtain⟨o1,ho1,hh⟩:=ae hh
 refine bW 0 (fun s t H e=>match s with|s3j1=>∃v1j1:Nat,t 1=.ptr 1 v1j1 0∧t 3=.bool s3j1∧H 1=some ⟨v1j1,87,[.str p0.cD,.int .i64 p0.aE,.int .i64 p0.aH,.int .i64 p0.bk,.int .i64 p0.bd],false,false,false⟩) (fun s=>s=o1) ?_ ?_
 ·rintro s3j1 t H e ⟨v1j1,Zj1⟩ rfl
  try dsimp only at hh
  try simp only[dt,seval,-Int.reduceToNat,Zj1]
  refine sp bB hh (fun _ hh =>?_) (fun _ hh =>?_)
  ·try simp only[dt,seval,-Int.reduceToNat,Zj1]
   refine sp bB hh (fun _ hh =>?_) (fun _ hh =>?_)
   ·obtain⟨r4,hr4,hh⟩:=ae hh
    try simp only[dt,seval,-Int.reduceToNat,Zj1,hr4]
    refine sp bB hh (fun _ hh =>?_) (fun _ hh =>?_)
    ·obtain⟨r6,hr6,hh⟩:=ae hh
     cases hh
     try simp only[dt,seval,-Int.reduceToNat,Zj1,hr4,hr6]
    ·cases hh
     try simp only[dt,seval,-Int.reduceToNat,Zj1,hr4]
   ·cases hh
    try simp only[dt,seval,-Int.reduceToNat,Zj1]
  ·cases hh
   try simp only[dt,seval,-Int.reduceToNat,Zj1]
 ·clear hh
  have hh:=ho1
  try simp only[dt,seval,-Int.reduceToNat]
  refine sp bB hh (fun _ hh =>?_) (fun _ hh =>?_)
  ·cases hh
   try simp only[dt,seval,-Int.reduceToNat]
   rw[an]
   refine⟨_,rfl,?_⟩
   refine⟨0,?_,?_,?_⟩
   all_goals first|rfl|(simp only[dt,seval,-Int.reduceToNat]<;>rfl)
  ·cases hh
   try simp only[dt,seval,-Int.reduceToNat]
   rw[an]
   refine⟨_,rfl,?_⟩
   refine⟨0,?_,?_,?_⟩
   all_goals first|rfl|(simp only[dt,seval,-Int.reduceToNat]<;>rfl)
theorem uU:bM Tryz.prog 51 mI:=bM.of (mode := .clean) tok Dc mixed Tryz.func51 (by kernel_rfl) ⟨by kernel_rfl,by kernel_rfl⟩ (fun _=>Nat.le_of_ble_eq_true (by kernel_rfl)) (fun x r h=>GL x r h)
noncomputable def qg:=eN (dU (iI al) (dU (aI .i64) (dR (aI .i64)))) (fun x:(List aj)×Int×Int=>jV x.1 x.2.1 x.2.2) (fun r:aj×Int =>.clean (.tup [.agg [.str r.1.cD,.int .i64 r.1.aE,.int .i64 r.1.aH,.int .i64 r.1.bk,.int .i64 r.1.bd],.int .i64 r.2]))
theorem w7 (p0:(List aj)) (p1:Int) (p2:Int):qg none [.sl false false p0.length (ab al p0),.int .i64 p1,.int .i64 p2]=(jV p0 p1 p2).map fun r:aj×Int=>(.clean (.tup [.agg [.str r.1.cD,.int .i64 r.1.aE,.int .i64 r.1.aH,.int .i64 r.1.bk,.int .i64 r.1.bd],.int .i64 r.2]),none):=aJ _ _ _ (p0,p1,p2)
noncomputable def mY:Env:=(Am.ext aV 91 false iM)
theorem Dd:bR Tryz.prog mY:=(bR.none.add mz false)
theorem cZ:type_of% (ai @w<|ai @gz<|@mY.eq_1):=⟨@w,@gz,@mY.eq_1⟩
theorem GM (p0:(List aj)) (p1:Int) (p2:Int) (r:aj×Int) (hh:jV p0 p1 p2=some r):aP .clean tab mY FU Tryz.f67 none [.sl false false p0.length (ab al p0),.int .i64 p1,.int .i64 p2]=some (.clean (.tup [.agg [.str r.1.cD,.int .i64 r.1.aE,.int .i64 r.1.aH,.int .i64 r.1.bk,.int .i64 r.1.bd],.int .i64 r.2]),none):=by
 refine ax rfl Tryz.ntmps67 Tryz.results67 ?_
 unfold jV at hh
 obtain⟨r1,hr1,hh⟩:=ae hh
 try simp only[cZ,seval,-Int.reduceToNat,hr1]
 obtain⟨o2,ho2,hh⟩:=ae hh
 refine bW 0 (fun s t H e=>match s with|s24j1=>∃v6j1:Nat,t 0=.sl false false p0.length (ab al p0)∧t 1=.int .i64 p1∧t 2=.int .i64 p2∧t 6=.ptr 6 v6j1 0∧t 24=.bool s24j1∧H 6=some ⟨v6j1,87,[.str (ByteArray.mk #[]),.int .i64 0,.int .i64 0,.int .i64 0,.int .i64 0],false,false,false⟩) (fun s=>s=o2) ?_ ?_
 ·rintro s24j1 t H e ⟨v6j1,Zj1⟩ rfl
  try dsimp only at hh
  try simp only[cZ,seval,-Int.reduceToNat,hr1,Zj1]
  refine sp ak hh (fun _ hh =>?_) (fun _ hh =>?_)
  ·cases hh
   try simp only[cZ,seval,-Int.reduceToNat,hr1,Zj1]
  ·obtain⟨x4,hx4,hh⟩:=ae hh
   have ax4:=bH al hx4
   simp only[bZ]at ax4
   obtain⟨x5,hx5,hh⟩:=ae hh
   have ax5:=bH al hx5
   simp only[bZ]at ax5
   try simp only[cZ,seval,-Int.reduceToNat,hr1,Zj1,ax4,ax5]
   refine cj (by kernel_rfl) ?_
   try simp only[cZ,seval,-Int.reduceToNat,hr1,Zj1,ax4,ax5]
   refine sp aX hh (fun _ hh =>?_) (fun _ hh =>?_)
   ·cases hh
    try simp only[cZ,seval,-Int.reduceToNat,hr1,Zj1,ax4,ax5]
   ·try simp only[cZ,seval,-Int.reduceToNat,hr1,Zj1,ax4,ax5]
    refine sp ak hh (fun _ hh =>?_) (fun _ hh =>?_)
    ·cases hh
     try simp only[cZ,seval,-Int.reduceToNat,hr1,Zj1,ax4,ax5]
    ·cases hh
     try simp only[cZ,seval,-Int.reduceToNat,hr1,Zj1,ax4,ax5]
 ·clear hh
  have hh:=ho2
  try simp only[cZ,seval,-Int.reduceToNat,hr1]
  refine sp aX hh (fun _ hh =>?_) (fun _ hh =>?_)
  ·cases hh
   try simp only[cZ,seval,-Int.reduceToNat,hr1]
   rw[an]
   refine⟨_,rfl,?_⟩
   refine⟨0,?_,?_,?_,?_,?_,?_⟩
   all_goals first|rfl|(simp only[cZ,seval,-Int.reduceToNat,hr1]<;>rfl)
  ·obtain⟨r9,hr9,hh⟩:=ae hh
   cases hh
   try simp only[cZ,seval,-Int.reduceToNat,hr1,hr9]
   rw[an]
   refine⟨_,rfl,?_⟩
   refine⟨0,?_,?_,?_,?_,?_,?_⟩
   all_goals first|rfl|(simp only[cZ,seval,-Int.reduceToNat,hr1,hr9]<;>rfl)
theorem DD:bM Tryz.prog 67 qg:=bM.of (mode := .clean) tok Dd mixed Tryz.func67 (by kernel_rfl) ⟨by kernel_rfl,by kernel_rfl⟩ (fun _=>Nat.le_of_ble_eq_true (by kernel_rfl)) (fun x r h=>GM x.1 x.2.1 x.2.2 r h)
noncomputable def fc:=eN (dR (dm dQ)) (fun x:aw=>dh x) (fun r:Bool =>.clean (.bool r))
theorem cO (p0_0:(List aj)):fc none [.agg [.sl false false p0_0.length (ab al p0_0)]]=(dh (aw.mk p0_0)).map fun r:Bool=>(.clean (.bool r),none):=aJ _ _ _ ((aw.mk p0_0))
noncomputable def lR:Env:=(Am.ext (Am.ext aV 51 false mI) 67 false qg)
theorem BG:bR Tryz.prog lR:=((bR.none.add uU false).add DD false)
theorem bL:type_of% (ai @w<|ai @nk<|ai @w7<|@lR.eq_1):=⟨@w,@nk,@w7,@lR.eq_1⟩
theorem Dt (p0:aw) (r:Bool) (hh:dh p0=some r):aP .clean tab lR FU Tryz.f39 none [.agg [.sl false false p0.ag.length (ab al p0.ag)]]=some (.clean (.bool r),none):=by
 refine ax rfl Tryz.ntmps39 Tryz.results39 ?_
 unfold dh at hh
 try simp only[bL,seval,-Int.reduceToNat]
 refine sp ak hh (fun _ hh =>?_) (fun _ hh =>?_)
 ·cases hh
  try simp only[bL,seval,-Int.reduceToNat]
 ·try simp only[bL,seval,-Int.reduceToNat]
  obtain⟨o11,ho11,hh⟩:=ae hh
  refine az (fun s t H e=>match s with|s14a=>∃v1a:Nat,t 1=.ptr 1 v1a 0∧t 12=.sl false false p0.ag.length (ab al p0.ag)∧t 13=.int .i64 (p0.ag.length:Int)∧t 14=.int .i64 s14a∧H 1=some ⟨v1a,24,[.sl false false p0.ag.length (ab al p0.ag)],false,false,false⟩) (fun o x t H e=>match o with|(.inl _)=>x=.exit 0|(.inr r)=>x=.ret∧gT .clean tab none [.tmp 2] ⟨t,H,e⟩=some (.clean (.bool r),none)) ho11 ?_ ?_ ?_
  ·refine⟨0,?_,?_,?_,?_,?_⟩
   all_goals first|rfl|(simp only[bL,seval,-Int.reduceToNat]<;>rfl)
  ·rintro s14a t H e ⟨v1a,Za⟩ c hh
   simp only[kT]at hh
   try simp only[bL,seval,-Int.reduceToNat,Za]
   refine sp ak hh (fun _ hh =>?_) (fun _ hh =>?_)
   ·obtain⟨x13,hx13,hh⟩:=ae hh
    have ax13:=bH al hx13
    simp only[bZ]at ax13
    obtain⟨r14,hr14,hh⟩:=ae hh
    try simp only[bL,seval,-Int.reduceToNat,Za,ax13,hr14]
    refine sp ak hh (fun _ hh =>?_) (fun _ hh =>?_)
    ·cases hh
     try simp only[bL,seval,-Int.reduceToNat,Za,ax13,hr14]
     refine jg ?_
     refine⟨v1a,?_,?_,?_,?_,?_⟩
     all_goals first|rfl|(simp only[bL,seval,-Int.reduceToNat,Za,ax13,hr14]<;>rfl)
    ·obtain⟨x16,hx16,hh⟩:=ae hh
     obtain⟨q17a,q17b,q17c,q17d,q17e⟩:=Cy al hx16
     simp only[bZ]at q17e
     obtain⟨r18,hr18,hh⟩:=ae hh
     try simp only[bL,seval,-Int.reduceToNat,Za,ax13,hr14,q17a,q17b,q17c,q17d,q17e,hr18]
     refine cj (by kernel_rfl) ?_
     try simp only[bL,seval,-Int.reduceToNat,Za,ax13,hr14,q17a,q17b,q17c,q17d,q17e,hr18]
     refine sp aX hh (fun _ hh =>?_) (fun _ hh =>?_)
     ·cases hh
      try simp only[bL,seval,-Int.reduceToNat,Za,ax13,hr14,q17a,q17b,q17c,q17d,q17e,hr18]
      refine yW ⟨rfl,?_⟩
      try simp only[bL,seval,-Int.reduceToNat,Za,ax13,hr14,q17a,q17b,q17c,q17d,q17e,hr18]
     ·try simp only[bL,seval,-Int.reduceToNat,Za,ax13,hr14,q17a,q17b,q17c,q17d,q17e,hr18]
      refine sp ak hh (fun _ hh =>?_) (fun _ hh =>?_)
      ·cases hh
       try simp only[bL,seval,-Int.reduceToNat,Za,ax13,hr14,q17a,q17b,q17c,q17d,q17e,hr18]
       refine yW ⟨rfl,?_⟩
       try simp only[bL,seval,-Int.reduceToNat,Za,ax13,hr14,q17a,q17b,q17c,q17d,q17e,hr18]
      ·cases hh
       try simp only[bL,seval,-Int.reduceToNat,Za,ax13,hr14,q17a,q17b,q17c,q17d,q17e,hr18]
       refine jg ?_
       refine⟨v1a,?_,?_,?_,?_,?_⟩
       all_goals first|rfl|(simp only[bL,seval,-Int.reduceToNat,Za,ax13,hr14,q17a,q17b,q17c,q17d,q17e,hr18]<;>rfl)
   ·cases hh
    try simp only[bL,seval,-Int.reduceToNat,Za]
    refine kX ?_
    exact rfl
  ·rintro x t H e hx
   rcases o11 with _|ra
   ·dsimp only at hx hh
    subst hx
    cases hh
    try simp only[bL,seval,-Int.reduceToNat]
   ·dsimp only at hx hh
    obtain⟨rfl,hE⟩:=hx
    cases hh
    try simp only[bq,bh,bF,dw,du]
    exact hE
theorem gx:bM Tryz.prog 39 fc:=bM.of (mode := .clean) tok BG mixed Tryz.func39 (by kernel_rfl) ⟨by kernel_rfl,by kernel_rfl⟩ (fun _=>Nat.le_of_ble_eq_true (by kernel_rfl)) (fun x r h=>Dt x r h)
noncomputable def sk:=eN (dU Ts (dU (aI .i64) (dR (aI .i64)))) (fun x:ByteArray×Int×Int=>kc x.1 x.2.1 x.2.2) (fun r:aj =>.clean (.agg [.str r.cD,.int .i64 r.aE,.int .i64 r.aH,.int .i64 r.bk,.int .i64 r.bd]))
theorem zf (p0:ByteArray) (p1:Int) (p2:Int):sk none [.str p0,.int .i64 p1,.int .i64 p2]=(kc p0 p1 p2).map fun r:aj=>(.clean (.agg [.str r.cD,.int .i64 r.aE,.int .i64 r.aH,.int .i64 r.bk,.int .i64 r.bd]),none):=aJ _ _ _ (p0,p1,p2)
theorem JK (p0:ByteArray) (p1:Int) (p2:Int) (r:aj) (hh:kc p0 p1 p2=some r):aP .clean tab aV FU Tryz.f62 none [.str p0,.int .i64 p1,.int .i64 p2]=some (.clean (.agg [.str r.cD,.int .i64 r.aE,.int .i64 r.aH,.int .i64 r.bk,.int .i64 r.bd]),none):=by
 refine ax rfl Tryz.ntmps62 Tryz.results62 ?_
 unfold kc at hh
 cases hh
 try simp only[w,seval,-Int.reduceToNat]
theorem G2:bM Tryz.prog 62 sk:=bM.of (mode := .clean) tok bR.none mixed Tryz.func62 (by kernel_rfl) ⟨by kernel_rfl,by kernel_rfl⟩ (fun _=>Nat.le_of_ble_eq_true (by kernel_rfl)) (fun x r h=>JK x.1 x.2.1 x.2.2 r h)
theorem xT (r:(List aj)) (hh:dr []=some r):aP (.fresh 87 5) tab aV FU Tryz.f63 none [.sl true true 0 []]=some (.fresh 87 5 r.length (ab al r),none):=by
 unfold dr at hh
 obtain⟨qa,qb,qc⟩:=qh hh
 subst qa
 refine ax rfl Tryz.ntmps63 Tryz.results63 ?_
 simp only[w,seval,-Int.reduceToNat,Nat.lt_irrefl]
theorem xU (r:(List aj)) (hh:dr []=some r):aP (.fresh 87 5) tab aV FU Tryz.f63 none [.sl true false 0 []]=some (.fresh 87 5 r.length (ab al r),none):=by
 unfold dr at hh
 obtain⟨qa,qb,qc⟩:=qh hh
 subst qa
 refine ax rfl Tryz.ntmps63 Tryz.results63 ?_
 simp only[w,seval,-Int.reduceToNat,Nat.lt_irrefl]
theorem xV (p0 r:(List aj)) (hp:0<p0.length) (hh:dr p0=some r):aP (.fresh 87 5) tab aV FU Tryz.f63 none [.sl false false p0.length (ab al p0)]=some (.fresh 87 5 r.length (ab al r),none):=by
 unfold dr at hh
 have hz:¬p0.length=0:=by omega
 obtain⟨qa,qb,qc⟩:=qh hh
 subst qa
 refine ax rfl Tryz.ntmps63 Tryz.results63 ?_
 simp only[w,seval,-Int.reduceToNat,hp,hz,qb,qc]
noncomputable def kn:=eN (dR (iI al)) (fun x:(List aj)=>dr x) (fun r:(List aj) =>.fresh 87 5 r.length (ab al r))
theorem kL (p0:(List aj)):kn none [.sl false false p0.length (ab al p0)]=(dr p0).map fun r:(List aj)=>(.fresh 87 5 r.length (ab al r),none):=aJ _ _ _ p0
theorem rL:bM Tryz.prog 63 kn:=bM.UP (mode:=(.fresh 87 5)) tok bR.none mixed Tryz.func63 (by kernel_rfl) ⟨by kernel_rfl,by kernel_rfl⟩ (Nat.le_of_ble_eq_true (by kernel_rfl)) xT xU xV
noncomputable def Rq:List D→List D→Option (List D):=pD al (dR (dm al)) Ht
theorem Wq:Ao Tryz.prog 64 ⟨87,5,48,Rq⟩:=Vg al aj.mk (fun _ _ _ _ _=>rfl) (fun x=>⟨_,_,_,_,_,rfl⟩)
theorem vG (l:List aj) (p1_0:ByteArray) (p1_1:Int) (p1_2:Int) (p1_3:Int) (p1_4:Int) {z:List aj} (h:lz l (aj.mk p1_0 p1_1 p1_2 p1_3 p1_4)=some z):∃cs,Rq (ab al l) [.agg [.str p1_0,.int .i64 p1_1,.int .i64 p1_2,.int .i64 p1_3,.int .i64 p1_4]]=some cs∧ab al l++cs=ab al z∧l.length+1=z.length∧z.length*48≤140737488355328:=IV al (A:=(dR (dm al))) (F:=Ht) (b:=(aj.mk p1_0 p1_1 p1_2 p1_3 p1_4)) h
theorem ux (r:(List Int)) (hh:bo []=some r):aP (.fresh 3 1) tab aV FU Tryz.f65 none [.sl true true 0 []]=some (.fresh 3 1 r.length (ab (eI .i64) r),none):=by
 unfold bo at hh
 obtain⟨qa,qb,qc⟩:=qh hh
 subst qa
 refine ax rfl Tryz.ntmps65 Tryz.results65 ?_
 simp only[w,seval,-Int.reduceToNat,Nat.lt_irrefl]
theorem uy (r:(List Int)) (hh:bo []=some r):aP (.fresh 3 1) tab aV FU Tryz.f65 none [.sl true false 0 []]=some (.fresh 3 1 r.length (ab (eI .i64) r),none):=by
 unfold bo at hh
 obtain⟨qa,qb,qc⟩:=qh hh
 subst qa
 refine ax rfl Tryz.ntmps65 Tryz.results65 ?_
 simp only[w,seval,-Int.reduceToNat,Nat.lt_irrefl]
theorem uz (p0 r:(List Int)) (hp:0<p0.length) (hh:bo p0=some r):aP (.fresh 3 1) tab aV FU Tryz.f65 none [.sl false false p0.length (ab (eI .i64) p0)]=some (.fresh 3 1 r.length (ab (eI .i64) r),none):=by
 unfold bo at hh
 have hz:¬p0.length=0:=by omega
 obtain⟨qa,qb,qc⟩:=qh hh
 subst qa
 refine ax rfl Tryz.ntmps65 Tryz.results65 ?_
 simp only[w,seval,-Int.reduceToNat,hp,hz,qb,qc]
noncomputable def eO:=eN (dR (iI (eI .i64))) (fun x:(List Int)=>bo x) (fun r:(List Int) =>.fresh 3 1 r.length (ab (eI .i64) r))
theorem dy (p0:(List Int)):eO none [.sl false false p0.length (ab (eI .i64) p0)]=(bo p0).map fun r:(List Int)=>(.fresh 3 1 r.length (ab (eI .i64) r),none):=aJ _ _ _ p0
theorem gW:bM Tryz.prog 65 eO:=bM.UP (mode:=(.fresh 3 1)) tok bR.none mixed Tryz.func65 (by kernel_rfl) ⟨by kernel_rfl,by kernel_rfl⟩ (Nat.le_of_ble_eq_true (by kernel_rfl)) ux uy uz
noncomputable def Rr:List D→List D→Option (List D):=pD al (dU (aI .i64) (dR (aI .i64))) (y5 aj.mk (fun x=>x.aE) (fun x=>x.aH))
theorem Wr:Ao Tryz.prog 66 ⟨87,5,48,Rr⟩:=T3 al aj.mk (fun _ _ _ _ _=>rfl) (fun x=>⟨_,_,_,_,_,rfl⟩) (fun x=>x.aE) (fun x=>x.aH) (fun _ _ _ _ _=>rfl) (fun _ _ _ _ _=>rfl)
theorem uB (l:List aj) (p1:Int) (p2:Int) {z:List aj} (h:iH l p1 p2=some z):∃cs,Rr (ab al l) [.int .i64 p1,.int .i64 p2]=some cs∧ab al l++cs=ab al z∧l.length+1=z.length∧z.length*48≤140737488355328:=IV al (A:=(dU (aI .i64) (dR (aI .i64)))) (F:=(y5 aj.mk (fun x=>x.aE) (fun x=>x.aH))) (b:=(p1,p2)) h
noncomputable def mH:=eN (dU (dm dQ) (dU (iI fF) (dU (iI (eI .i64)) (dR (iI (eI .i64)))))) (fun x:aw×(List ByteArray)×(List Int)×(List Int)=>gX x.1 x.2.1 x.2.2.1 x.2.2.2) (fun r:aw×Int×(List Int)×Int =>.clean (.tup [.agg [.sl false false r.1.ag.length (ab al r.1.ag)],.int .i64 r.2.1,.sl false false r.2.2.1.length (ab (eI .i64) r.2.2.1),.int .i64 r.2.2.2]))
theorem kM (p0_0:(List aj)) (p1:(List ByteArray)) (p2:(List Int)) (p3:(List Int)):mH none [.agg [.sl false false p0_0.length (ab al p0_0)],.sl false false p1.length (ab fF p1),.sl false false p2.length (ab (eI .i64) p2),.sl false false p3.length (ab (eI .i64) p3)]=(gX (aw.mk p0_0) p1 p2 p3).map fun r:aw×Int×(List Int)×Int=>(.clean (.tup [.agg [.sl false false r.1.ag.length (ab al r.1.ag)],.int .i64 r.2.1,.sl false false r.2.2.1.length (ab (eI .i64) r.2.2.1),.int .i64 r.2.2.2]),none):=aJ _ _ _ ((aw.mk p0_0),p1,p2,p3)
noncomputable def mS:Env:=(Am.keep 82 (Am.keep 81 (Am.uR 14 1000014 (Am.xR 66 ⟨87,5,48,Rr⟩ (Am.ext (Am.xR 64 ⟨87,5,48,Rq⟩ (Am.ext (Am.ext (Am.ext aV 39 false fc) 62 false sk) 63 false kn)) 65 false eO)))))
theorem C7:bR Tryz.prog mS:=(bR.keep (bR.keep (bR.uR (bR.xR ((bR.xR (((bR.none.add gx false).add G2 false).add rL false) Wq).add gW false) Wr) 14 1000014) 81) 82)
theorem av:type_of% (ai @w<|ai @cO<|ai @zf<|ai @kL<|ai @dy<|@mS.eq_1):=⟨@w,@cO,@zf,@kL,@dy,@mS.eq_1⟩
theorem GG (p0:aw) (p1:(List ByteArray)) (p2:(List Int)) (p3:(List Int)) (r:aw×Int×(List Int)×Int) (hh:gX p0 p1 p2 p3=some r):aP .clean tab mS FU Tryz.f37 none [.agg [.sl false false p0.ag.length (ab al p0.ag)],.sl false false p1.length (ab fF p1),.sl false false p2.length (ab (eI .i64) p2),.sl false false p3.length (ab (eI .i64) p3)]=some (.clean (.tup [.agg [.sl false false r.1.ag.length (ab al r.1.ag)],.int .i64 r.2.1,.sl false false r.2.2.1.length (ab (eI .i64) r.2.2.1),.int .i64 r.2.2.2]),none):=by
 refine ax rfl Tryz.ntmps37 Tryz.results37 ?_
 unfold gX at hh
 obtain⟨r1,hr1,hh⟩:=ae hh
 try simp only[av,ne_eq,not_false_eq_true,seval,-Int.reduceToNat,hr1]
 obtain⟨o2,ho2,hh⟩:=ae hh
 refine bW 0 (fun s t H e=>match s with|s39j1=>∃v4j1:Nat,∃v8j1:Nat,∃v10j1:Nat,t 1=.sl false false p1.length (ab fF p1)∧t 2=.sl false false p2.length (ab (eI .i64) p2)∧t 3=.sl false false p3.length (ab (eI .i64) p3)∧t 4=.ptr 4 v4j1 0∧t 8=.ptr 8 v8j1 0∧t 10=.buf 10 v10j1 1 0 0∧t 12=.int .i64 (p1.length:Int)∧t 39=.bool s39j1∧H 4=some ⟨v4j1,24,[.sl false false p0.ag.length (ab al p0.ag)],false,false,false⟩∧H 8=some ⟨v8j1,24,[.sl true true 0 []],false,false,false⟩∧H 10=some ⟨v10j1,3,[],false,true,false⟩) (fun s=>s=o2) ?_ ?_
 ·rintro s39j1 t H e ⟨v4j1,v8j1,v10j1,Zj1⟩ rfl
  try dsimp only at hh
  try simp only[av,ne_eq,not_false_eq_true,seval,-Int.reduceToNat,hr1,Zj1]
  refine sp ak hh (fun _ hh =>?_) (fun _ hh =>?_)
  ·cases hh
   try simp only[av,ne_eq,not_false_eq_true,seval,-Int.reduceToNat,hr1,Zj1]
  ·try simp only[av,ne_eq,not_false_eq_true,seval,-Int.reduceToNat,hr1,Zj1]
   obtain⟨o12,ho12,hh⟩:=ae hh
   refine az (fun s t H e=>match s with|s43b=>∃v4b:Nat,∃v8b:Nat,∃v10b:Nat,t 1=.sl false false p1.length (ab fF p1)∧t 2=.sl false false p2.length (ab (eI .i64) p2)∧t 3=.sl false false p3.length (ab (eI .i64) p3)∧t 4=.ptr 4 v4b 0∧t 8=.ptr 8 v8b 0∧t 10=.buf 10 v10b 1 0 0∧t 12=.int .i64 (p1.length:Int)∧t 42=.int .i64 (p1.length:Int)∧t 43=.int .i64 s43b∧H 4=some ⟨v4b,24,[.sl false false p0.ag.length (ab al p0.ag)],false,false,false⟩∧H 8=some ⟨v8b,24,[.sl true true 0 []],false,false,false⟩∧H 10=some ⟨v10b,3,[],false,true,false⟩) (fun o x t H e=>match o with|(.inl _)=>x=.exit 0∧∃v4bx:Nat,∃v8bx:Nat,∃v10bx:Nat,t 1=.sl false false p1.length (ab fF p1)∧t 2=.sl false false p2.length (ab (eI .i64) p2)∧t 3=.sl false false p3.length (ab (eI .i64) p3)∧t 4=.ptr 4 v4bx 0∧t 8=.ptr 8 v8bx 0∧t 10=.buf 10 v10bx 1 0 0∧t 12=.int .i64 (p1.length:Int)∧H 4=some ⟨v4bx,24,[.sl false false p0.ag.length (ab al p0.ag)],false,false,false⟩∧H 8=some ⟨v8bx,24,[.sl true true 0 []],false,false,false⟩∧H 10=some ⟨v10bx,3,[],false,true,false⟩|(.inr r)=>x=.ret∧gT .clean tab none [.cell 8 24,.tmp 9,.tmp 10,.tmp 11] ⟨t,H,e⟩=some (.clean (.tup [.agg [.sl false false r.1.ag.length (ab al r.1.ag)],.int .i64 r.2.1,.sl false false r.2.2.1.length (ab (eI .i64) r.2.2.1),.int .i64 r.2.2.2]),none)) ho12 ?_ ?_ ?_
   ·refine⟨v4j1,v8j1,v10j1,?_,?_,?_,?_,?_,?_,?_,?_,?_,?_,?_,?_⟩
    all_goals first|rfl|(simp only[av,ne_eq,not_false_eq_true,seval,-Int.reduceToNat,hr1,Zj1]<;>rfl)
   ·rintro s43b t H e ⟨v4b,v8b,v10b,Zb⟩ c hh
    simp only[jz]at hh
    try simp only[av,ne_eq,not_false_eq_true,seval,-Int.reduceToNat,hr1,Zb]
    refine sp ak hh (fun _ hh =>?_) (fun _ hh =>?_)
    ·obtain⟨x14,hx14,hh⟩:=ae hh
     have ax14:=bH fF hx14
     simp only[bZ]at ax14
     obtain⟨x15,hx15,hh⟩:=ae hh
     have ax15:=bH (eI .i64) hx15
     simp only[bZ]at ax15
     obtain⟨x16,hx16,hh⟩:=ae hh
     have ax16:=bH (eI .i64) hx16
     simp only[bZ]at ax16
     obtain⟨r17,hr17,hh⟩:=ae hh
     have i18:=cO ([r17])
     simp only[aN,bZ,List.length_cons,List.length_nil,Nat.zero_add,Nat.reduceAdd,List.length_set]at i18
     obtain⟨r19,hr19,hh⟩:=ae hh
     try simp only[av,ne_eq,not_false_eq_true,seval,-Int.reduceToNat,hr1,Zb,ax14,ax15,ax16,hr17,i18,hr19]
     refine cj (by kernel_rfl) ?_
     try simp only[av,ne_eq,not_false_eq_true,seval,-Int.reduceToNat,hr1,Zb,ax14,ax15,ax16,hr17,i18,hr19]
     refine sp ak hh (fun _ hh =>?_) (fun _ hh =>?_)
     ·cases hh
      try simp only[av,ne_eq,not_false_eq_true,seval,-Int.reduceToNat,hr1,Zb,ax14,ax15,ax16,hr17,i18,hr19]
      refine yW ⟨rfl,?_⟩
      try simp only[av,ne_eq,not_false_eq_true,seval,-Int.reduceToNat,hr1,Zb,ax14,ax15,ax16,hr17,i18,hr19]
     ·cases hh
      try simp only[av,ne_eq,not_false_eq_true,seval,-Int.reduceToNat,hr1,Zb,ax14,ax15,ax16,hr17,i18,hr19]
      refine jg ?_
      refine⟨v4b,v8b,v10b,?_,?_,?_,?_,?_,?_,?_,?_,?_,?_,?_,?_⟩
      all_goals first|rfl|(simp only[av,ne_eq,not_false_eq_true,seval,-Int.reduceToNat,hr1,Zb,ax14,ax15,ax16,hr17,i18,hr19]<;>rfl)
    ·cases hh
     try simp only[av,ne_eq,not_false_eq_true,seval,-Int.reduceToNat,hr1,Zb]
     refine kX ?_
     refine⟨rfl,⟨v4b,v8b,v10b,?_,?_,?_,?_,?_,?_,?_,?_,?_,?_⟩⟩
     all_goals first|rfl|(simp only[av,ne_eq,not_false_eq_true,seval,-Int.reduceToNat,hr1,Zb]<;>rfl)
   ·rintro x t H e hx
    rcases o12 with _|rb
    ·dsimp only at hx hh
     obtain⟨rfl,⟨v4bx,v8bx,v10bx,Zbx⟩⟩:=hx
     try simp only[av,ne_eq,not_false_eq_true,seval,-Int.reduceToNat,hr1,Zbx]
     obtain⟨o21,ho21,hh⟩:=ae hh
     refine bW 0 (fun s t H e=>match s with|s76j3=>∃v4j3:Nat,∃v8j3:Nat,∃v10j3:Nat,t 1=.sl false false p1.length (ab fF p1)∧t 2=.sl false false p2.length (ab (eI .i64) p2)∧t 3=.sl false false p3.length (ab (eI .i64) p3)∧t 4=.ptr 4 v4j3 0∧t 8=.ptr 8 v8j3 0∧t 10=.buf 10 v10j3 1 0 0∧t 76=.bool s76j3∧H 4=some ⟨v4j3,24,[.sl false false p0.ag.length (ab al p0.ag)],false,false,false⟩∧H 8=some ⟨v8j3,24,[.sl true true 0 []],false,false,false⟩∧H 10=some ⟨v10j3,3,[],false,true,false⟩) (fun s=>s=o21) ?_ ?_
     ·rintro s76j3 t H e ⟨v4j3,v8j3,v10j3,Zj3⟩ rfl
      try dsimp only at hh
      try simp only[av,ne_eq,not_false_eq_true,seval,-Int.reduceToNat,hr1,Zj3]
      refine sp ak hh (fun _ hh =>?_) (fun _ hh =>?_)
      ·cases hh
       try simp only[av,ne_eq,not_false_eq_true,seval,-Int.reduceToNat,hr1,Zj3]
      ·obtain⟨r23,hr23,hh⟩:=ae hh
       try simp only[av,ne_eq,not_false_eq_true,seval,-Int.reduceToNat,hr1,Zj3,hr23]
       obtain⟨o33,ho33,hh⟩:=ae hh
       refine az (fun s t H e=>match s with|(s85d,l10d,l1000014d)=>∃v8d:Nat,∃v10d:Nat,∃v14d:Nat,∃v1000014d:Nat,t 1=.sl false false p1.length (ab fF p1)∧t 2=.sl false false p2.length (ab (eI .i64) p2)∧t 3=.sl false false p3.length (ab (eI .i64) p3)∧t 8=.ptr 8 v8d 0∧t 10=.buf 10 v10d 1 0 (l10d).length∧t 14=.pm 14 v14d 1000014∧t 84=.int .i64 (p1.length:Int)∧t 85=.int .i64 s85d∧H 8=some ⟨v8d,24,[.sl true true 0 []],false,false,false⟩∧H 10=some ⟨v10d,3,ab (eI .i64) l10d,false,true,false⟩∧H 14=some ⟨v14d,110,[.ph 1000014 5 ((l1000014d).length)],false,false,true⟩∧H 1000014=some ⟨v1000014d,87,ab al l1000014d,false,true,false⟩) (fun o x t H e=>match o with|(l10dx,l1000014dx)=>x=.exit 2∧∃v8dx:Nat,∃v10dx:Nat,∃v14dx:Nat,∃v1000014dx:Nat,t 8=.ptr 8 v8dx 0∧t 10=.buf 10 v10dx 1 0 (l10dx).length∧t 14=.pm 14 v14dx 1000014∧H 8=some ⟨v8dx,24,[.sl true true 0 []],false,false,false⟩∧H 10=some ⟨v10dx,3,ab (eI .i64) l10dx,false,true,false⟩∧H 14=some ⟨v14dx,110,[.ph 1000014 5 ((l1000014dx).length)],false,false,true⟩∧H 1000014=some ⟨v1000014dx,87,ab al l1000014dx,false,true,false⟩) ho33 ?_ ?_ ?_
       ·refine⟨v8j3,v10j3,e,0,?_,?_,?_,?_,?_,?_,?_,?_,?_,?_,?_,?_⟩
        all_goals first|rfl|(simp only[av,ne_eq,not_false_eq_true,seval,-Int.reduceToNat,hr1,Zj3,hr23]<;>rfl)
       ·rintro⟨s85d,l10d,l1000014d⟩ t H e ⟨v8d,v10d,v14d,v1000014d,Zd⟩ c hh
        simp only[iu]at hh
        try simp only[av,ne_eq,not_false_eq_true,seval,-Int.reduceToNat,hr1,hr23,Zd]
        refine sp ak hh (fun _ hh =>?_) (fun _ hh =>?_)
        ·obtain⟨x35,hx35,hh⟩:=ae hh
         have ax35:=bH fF hx35
         simp only[bZ]at ax35
         obtain⟨x36,hx36,hh⟩:=ae hh
         have ax36:=bH (eI .i64) hx36
         simp only[bZ]at ax36
         obtain⟨x37,hx37,hh⟩:=ae hh
         have ax37:=bH (eI .i64) hx37
         simp only[bZ]at ax37
         obtain⟨r38,hr38,hh⟩:=ae hh
         obtain⟨x39,hx39,hh⟩:=ae hh
         obtain⟨q40w,q40a,q40b,q40c,q40d⟩:=vG l1000014d r38.cD r38.aE r38.aH r38.bk r38.bd hx39
         try simp only[bZ]at q40a
         obtain⟨x41,hx41,hh⟩:=ae hh
         obtain⟨q42a,q42b,q42c,q42d⟩:=ey (eI .i64) hx41
         simp only[bZ]at q42b
         try simp only[av,ne_eq,not_false_eq_true,seval,-Int.reduceToNat,hr1,hr23,Zd,ax35,ax36,ax37,hr38,q40a,q40b,q40c,q40d,q42a,q42b,q42c,q42d]
         refine cj (by kernel_rfl) ?_
         cases hh
         try simp only[av,ne_eq,not_false_eq_true,seval,-Int.reduceToNat,hr1,hr23,Zd,ax35,ax36,ax37,hr38,q40a,q40b,q40c,q40d,q42a,q42b,q42c,q42d]
         refine jg ?_
         refine⟨v8d,e+1+1,v14d,v1000014d,?_,?_,?_,?_,?_,?_,?_,?_,?_,?_,?_,?_⟩
         all_goals first|rfl|(simp only[av,ne_eq,not_false_eq_true,seval,-Int.reduceToNat,hr1,hr23,Zd,ax35,ax36,ax37,hr38,q40a,q40b,q40c,q40d,q42a,q42b,q42c,q42d]<;>rfl)
        ·cases hh
         try simp only[av,ne_eq,not_false_eq_true,seval,-Int.reduceToNat,hr1,hr23,Zd]
         refine kX ?_
         refine⟨rfl,⟨v8d,v10d,v14d,v1000014d,?_,?_,?_,?_,?_,?_,?_⟩⟩
         all_goals first|rfl|(simp only[av,ne_eq,not_false_eq_true,seval,-Int.reduceToNat,hr1,hr23,Zd]<;>rfl)
       ·rintro x t H e hx
        rcases o33 with⟨l10dx,l1000014dx⟩
        dsimp only at hx hh
        obtain⟨rfl,⟨v8dx,v10dx,v14dx,v1000014dx,Zdx⟩⟩:=hx
        obtain⟨r43,hr43,hh⟩:=ae hh
        try simp only[av,ne_eq,not_false_eq_true,seval,-Int.reduceToNat,hr1,hr23,Zdx,hr43]
        obtain⟨o66,ho66,hh⟩:=ae hh
        refine az (fun s t H e=>match s with|(l16e,l1000014e)=>∃v8e:Nat,∃v10e:Nat,∃v14e:Nat,∃v16e:Nat,∃v1000014e:Nat,t 8=.ptr 8 v8e 0∧t 10=.buf 10 v10e 1 0 (l10dx).length∧t 14=.pm 14 v14e 1000014∧t 16=.buf 16 v16e 1 0 (l16e).length∧H 8=some ⟨v8e,24,[.sl true true 0 []],false,false,false⟩∧H 10=some ⟨v10e,3,ab (eI .i64) l10dx,false,true,false⟩∧H 14=some ⟨v14e,110,[.ph 1000014 5 ((l1000014e).length)],false,false,true⟩∧H 16=some ⟨v16e,3,ab (eI .i64) l16e,false,true,false⟩∧H 1000014=some ⟨v1000014e,87,ab al l1000014e,false,true,false⟩) (fun o x t H e=>match o with|(l16ex,l1000014ex)=>x=.exit 4∧∃v8ex:Nat,∃v10ex:Nat,∃v14ex:Nat,∃v16ex:Nat,∃v1000014ex:Nat,t 8=.ptr 8 v8ex 0∧t 10=.buf 10 v10ex 1 0 (l10dx).length∧t 14=.pm 14 v14ex 1000014∧t 16=.buf 16 v16ex 1 0 (l16ex).length∧H 8=some ⟨v8ex,24,[.sl true true 0 []],false,false,false⟩∧H 10=some ⟨v10ex,3,ab (eI .i64) l10dx,false,true,false⟩∧H 14=some ⟨v14ex,110,[.ph 1000014 5 ((l1000014ex).length)],false,false,true⟩∧H 16=some ⟨v16ex,3,ab (eI .i64) l16ex,false,true,false⟩∧H 1000014=some ⟨v1000014ex,87,ab al l1000014ex,false,true,false⟩) ho66 ?_ ?_ ?_
        ·refine⟨v8dx,v10dx,v14dx,e,v1000014dx,?_,?_,?_,?_,?_,?_,?_,?_,?_⟩
         all_goals first|rfl|(simp only[av,ne_eq,not_false_eq_true,seval,-Int.reduceToNat,hr1,hr23,Zdx,hr43]<;>rfl)
        ·rintro⟨l16e,l1000014e⟩ t H e ⟨v8e,v10e,v14e,v16e,v1000014e,Ze⟩ c hh
         simp only[gi]at hh
         try simp only[av,ne_eq,not_false_eq_true,seval,-Int.reduceToNat,hr1,hr23,hr43,Ze]
         refine sp ak hh (fun _ hh =>?_) (fun _ hh =>?_)
         ·try simp only[av,ne_eq,not_false_eq_true,seval,-Int.reduceToNat,hr1,hr23,hr43,Ze]
          obtain⟨o75,ho75,hh⟩:=ae hh
          refine az (fun s t H e=>match s with|(s18g,l17g,l1000014g)=>∃v8g:Nat,∃v10g:Nat,∃v14g:Nat,∃v16g:Nat,∃v17g:Nat,∃v1000014g:Nat,t 8=.ptr 8 v8g 0∧t 10=.buf 10 v10g 1 0 (l10dx).length∧t 14=.pm 14 v14g 1000014∧t 16=.buf 16 v16g 1 0 (l16e).length∧t 17=.buf 17 v17g 1 0 (l17g).length∧t 18=.int .i64 s18g∧H 8=some ⟨v8g,24,[.sl true true 0 []],false,false,false⟩∧H 10=some ⟨v10g,3,ab (eI .i64) l10dx,false,true,false⟩∧H 14=some ⟨v14g,110,[.ph 1000014 5 ((l1000014g).length)],false,false,true⟩∧H 16=some ⟨v16g,3,ab (eI .i64) l16e,false,true,false⟩∧H 17=some ⟨v17g,3,ab (eI .i64) l17g,false,true,false⟩∧H 1000014=some ⟨v1000014g,87,ab al l1000014g,false,true,false⟩) (fun o x t H e=>match o with|(l17gx,l1000014gx)=>x=.exit 6∧∃v8gx:Nat,∃v10gx:Nat,∃v14gx:Nat,∃v16gx:Nat,∃v17gx:Nat,∃v1000014gx:Nat,t 8=.ptr 8 v8gx 0∧t 10=.buf 10 v10gx 1 0 (l10dx).length∧t 14=.pm 14 v14gx 1000014∧t 16=.buf 16 v16gx 1 0 (l16e).length∧t 17=.buf 17 v17gx 1 0 (l17gx).length∧H 8=some ⟨v8gx,24,[.sl true true 0 []],false,false,false⟩∧H 10=some ⟨v10gx,3,ab (eI .i64) l10dx,false,true,false⟩∧H 14=some ⟨v14gx,110,[.ph 1000014 5 ((l1000014gx).length)],false,false,true⟩∧H 16=some ⟨v16gx,3,ab (eI .i64) l16e,false,true,false⟩∧H 17=some ⟨v17gx,3,ab (eI .i64) l17gx,false,true,false⟩∧H 1000014=some ⟨v1000014gx,87,ab al l1000014gx,false,true,false⟩) ho75 ?_ ?_ ?_
          ·refine⟨v8e,v10e,v14e,v16e,e+1,v1000014e,?_,?_,?_,?_,?_,?_,?_,?_,?_,?_,?_,?_⟩
           all_goals first|rfl|(simp only[av,ne_eq,not_false_eq_true,seval,-Int.reduceToNat,hr1,hr23,hr43,Ze]<;>rfl)
          ·rintro⟨s18g,l17g,l1000014g⟩ t H e ⟨v8g,v10g,v14g,v16g,v17g,v1000014g,Zg⟩ c hh
           simp only[iw]at hh
           try simp only[av,ne_eq,not_false_eq_true,seval,-Int.reduceToNat,hr1,hr23,hr43,Zg]
           refine sp ak hh (fun _ hh =>?_) (fun _ hh =>?_)
           ·obtain⟨x77,hx77,hh⟩:=ae hh
            have ax77:=bH (eI .i64) hx77
            simp only[bZ]at ax77
            obtain⟨x78,hx78,hh⟩:=ae hh
            have ax78:=bH (eI .i64) hx78
            simp only[bZ]at ax78
            obtain⟨x79,hx79,hh⟩:=ae hh
            obtain⟨q80w,q80a,q80b,q80c,q80d⟩:=uB l1000014g x77 x78 hx79
            try simp only[bZ]at q80a
            obtain⟨x81,hx81,hh⟩:=ae hh
            obtain⟨q82a,q82b,q82c,q82d⟩:=ey (eI .i64) hx81
            simp only[bZ]at q82b
            try simp only[av,ne_eq,not_false_eq_true,seval,-Int.reduceToNat,hr1,hr23,hr43,Zg,ax77,ax78,q80a,q80b,q80c,q80d,q82a,q82b,q82c,q82d]
            refine cj (by kernel_rfl) ?_
            cases hh
            try simp only[av,ne_eq,not_false_eq_true,seval,-Int.reduceToNat,hr1,hr23,hr43,Zg,ax77,ax78,q80a,q80b,q80c,q80d,q82a,q82b,q82c,q82d]
            refine jg ?_
            refine⟨v8g,v10g,v14g,v16g,e+1,v1000014g,?_,?_,?_,?_,?_,?_,?_,?_,?_,?_,?_,?_⟩
            all_goals first|rfl|(simp only[av,ne_eq,not_false_eq_true,seval,-Int.reduceToNat,hr1,hr23,hr43,Zg,ax77,ax78,q80a,q80b,q80c,q80d,q82a,q82b,q82c,q82d]<;>rfl)
           ·cases hh
            try simp only[av,ne_eq,not_false_eq_true,seval,-Int.reduceToNat,hr1,hr23,hr43,Zg]
            refine kX ?_
            refine⟨rfl,⟨v8g,v10g,v14g,v16g,v17g,v1000014g,?_,?_,?_,?_,?_,?_,?_,?_,?_,?_,?_⟩⟩
            all_goals first|rfl|(simp only[av,ne_eq,not_false_eq_true,seval,-Int.reduceToNat,hr1,hr23,hr43,Zg]<;>rfl)
          ·rintro x t H e hx
           rcases o75 with⟨l17gx,l1000014gx⟩
           dsimp only at hx hh
           obtain⟨rfl,⟨v8gx,v10gx,v14gx,v16gx,v17gx,v1000014gx,Zgx⟩⟩:=hx
           obtain⟨x83,hx83,hh⟩:=ae hh
           have q84:=qP hx83
           try simp only[av,ne_eq,not_false_eq_true,seval,-Int.reduceToNat,hr1,hr23,hr43,Zgx,q84]
           refine sp ak hh (fun _ hh =>?_) (fun _ hh =>?_)
           ·obtain⟨x86,hx86,hh⟩:=ae hh
            have ax86:=bH (eI .i64) hx86
            simp only[bZ]at ax86
            obtain⟨x87,hx87,hh⟩:=ae hh
            obtain⟨q88a,q88b,q88c,q88d⟩:=ey (eI .i64) hx87
            simp only[bZ]at q88b
            cases hh
            try simp only[av,ne_eq,not_false_eq_true,seval,-Int.reduceToNat,hr1,hr23,hr43,Zgx,q84,ax86,q88a,q88b,q88c,q88d]
            refine jg ?_
            refine⟨v8gx,v10gx,v14gx,e+1+1,v1000014gx,?_,?_,?_,?_,?_,?_,?_,?_,?_⟩
            all_goals first|rfl|(simp only[av,ne_eq,not_false_eq_true,seval,-Int.reduceToNat,hr1,hr23,hr43,Zgx,q84,ax86,q88a,q88b,q88c,q88d]<;>rfl)
           ·cases hh
            try simp only[av,ne_eq,not_false_eq_true,seval,-Int.reduceToNat,hr1,hr23,hr43,Zgx,q84]
            refine jg ?_
            refine⟨v8gx,v10gx,v14gx,e+1,v1000014gx,?_,?_,?_,?_,?_,?_,?_,?_,?_⟩
            all_goals first|rfl|(simp only[av,ne_eq,not_false_eq_true,seval,-Int.reduceToNat,hr1,hr23,hr43,Zgx,q84]<;>rfl)
         ·cases hh
          try simp only[av,ne_eq,not_false_eq_true,seval,-Int.reduceToNat,hr1,hr23,hr43,Ze]
          refine kX ?_
          refine⟨rfl,⟨v8e,v10e,v14e,v16e,v1000014e,?_,?_,?_,?_,?_,?_,?_,?_,?_⟩⟩
          all_goals first|rfl|(simp only[av,ne_eq,not_false_eq_true,seval,-Int.reduceToNat,hr1,hr23,hr43,Ze]<;>rfl)
        ·rintro x t H e hx
         rcases o66 with⟨l16ex,l1000014ex⟩
         dsimp only at hx hh
         obtain⟨rfl,⟨v8ex,v10ex,v14ex,v16ex,v1000014ex,Zex⟩⟩:=hx
         obtain⟨x89,hx89,hh⟩:=ae hh
         have ax89:=bH (eI .i64) hx89
         simp only[bZ]at ax89
         try simp only[av,ne_eq,not_false_eq_true,seval,-Int.reduceToNat,hr1,hr23,hr43,Zex,ax89]
         refine cj (by kernel_rfl) ?_
         cases hh
         try simp only[av,ne_eq,not_false_eq_true,seval,-Int.reduceToNat,hr1,hr23,hr43,Zex,ax89]
     ·clear hh
      have hh:=ho21
      try simp only[av,ne_eq,not_false_eq_true,seval,-Int.reduceToNat,hr1,Zbx]
      refine sp aX hh (fun _ hh =>?_) (fun _ hh =>?_)
      ·cases hh
       try simp only[av,ne_eq,not_false_eq_true,seval,-Int.reduceToNat,hr1,Zbx]
       rw[an]
       refine⟨_,rfl,?_⟩
       refine⟨v4bx,v8bx,v10bx,?_,?_,?_,?_,?_,?_,?_,?_,?_,?_⟩
       all_goals first|rfl|(simp only[av,ne_eq,not_false_eq_true,seval,-Int.reduceToNat,hr1,Zbx]<;>rfl)
      ·cases hh
       try simp only[av,ne_eq,not_false_eq_true,seval,-Int.reduceToNat,hr1,Zbx]
       rw[an]
       refine⟨_,rfl,?_⟩
       refine⟨v4bx,v8bx,v10bx,?_,?_,?_,?_,?_,?_,?_,?_,?_,?_⟩
       all_goals first|rfl|(simp only[av,ne_eq,not_false_eq_true,seval,-Int.reduceToNat,hr1,Zbx]<;>rfl)
    ·dsimp only at hx hh
     obtain⟨rfl,hE⟩:=hx
     cases hh
     try simp only[bq,bh,bF,dw,du]
     exact hE
 ·clear hh
  have hh:=ho2
  try simp only[av,ne_eq,not_false_eq_true,seval,-Int.reduceToNat,hr1]
  refine sp aX hh (fun _ hh =>?_) (fun _ hh =>?_)
  ·cases hh
   try simp only[av,ne_eq,not_false_eq_true,seval,-Int.reduceToNat,hr1]
   rw[an]
   refine⟨_,rfl,?_⟩
   refine⟨0,0,0,?_,?_,?_,?_,?_,?_,?_,?_,?_,?_,?_⟩
   all_goals first|rfl|(simp only[av,ne_eq,not_false_eq_true,seval,-Int.reduceToNat,hr1]<;>rfl)
  ·try simp only[av,ne_eq,not_false_eq_true,seval,-Int.reduceToNat,hr1]
   refine sp aX hh (fun _ hh =>?_) (fun _ hh =>?_)
   ·cases hh
    try simp only[av,ne_eq,not_false_eq_true,seval,-Int.reduceToNat,hr1]
    rw[an]
    refine⟨_,rfl,?_⟩
    refine⟨0,0,0,?_,?_,?_,?_,?_,?_,?_,?_,?_,?_,?_⟩
    all_goals first|rfl|(simp only[av,ne_eq,not_false_eq_true,seval,-Int.reduceToNat,hr1]<;>rfl)
   ·try simp only[av,ne_eq,not_false_eq_true,seval,-Int.reduceToNat,hr1]
    refine sp aX hh (fun _ hh =>?_) (fun _ hh =>?_)
    ·cases hh
     try simp only[av,ne_eq,not_false_eq_true,seval,-Int.reduceToNat,hr1]
     rw[an]
     refine⟨_,rfl,?_⟩
     refine⟨0,0,0,?_,?_,?_,?_,?_,?_,?_,?_,?_,?_,?_⟩
     all_goals first|rfl|(simp only[av,ne_eq,not_false_eq_true,seval,-Int.reduceToNat,hr1]<;>rfl)
    ·cases hh
     try simp only[av,ne_eq,not_false_eq_true,seval,-Int.reduceToNat,hr1]
     rw[an]
     refine⟨_,rfl,?_⟩
     refine⟨0,0,0,?_,?_,?_,?_,?_,?_,?_,?_,?_,?_,?_⟩
     all_goals first|rfl|(simp only[av,ne_eq,not_false_eq_true,seval,-Int.reduceToNat,hr1]<;>rfl)
theorem uT:bM Tryz.prog 37 mH:=bM.of (mode := .clean) tok C7 mixed Tryz.func37 (by kernel_rfl) ⟨by kernel_rfl,by kernel_rfl⟩ (fun _=>Nat.le_of_ble_eq_true (by kernel_rfl)) (fun x r h=>GG x.1 x.2.1 x.2.2.1 x.2.2.2 r h)
noncomputable def nE:=eN (dU (iI (eI .i64)) (dR (iI (eI .i64)))) (fun x:(List Int)×(List Int)=>fU x.1 x.2) (fun r:Bool =>.clean (.bool r))
theorem kK (p0:(List Int)) (p1:(List Int)):nE none [.sl false false p0.length (ab (eI .i64) p0),.sl false false p1.length (ab (eI .i64) p1)]=(fU p0 p1).map fun r:Bool=>(.clean (.bool r),none):=aJ _ _ _ (p0,p1)
theorem BW (p0:(List Int)) (p1:(List Int)) (r:Bool) (hh:fU p0 p1=some r):aP .clean tab aV FU Tryz.f18 none [.sl false false p0.length (ab (eI .i64) p0),.sl false false p1.length (ab (eI .i64) p1)]=some (.clean (.bool r),none):=by
 refine ax rfl Tryz.ntmps18 Tryz.results18 ?_
 unfold fU at hh
 try simp only[w,seval,-Int.reduceToNat]
 refine sp ak hh (fun _ hh =>?_) (fun _ hh =>?_)
 ·cases hh
  try simp only[w,seval,-Int.reduceToNat]
 ·try simp only[w,seval,-Int.reduceToNat]
  obtain⟨o6,ho6,hh⟩:=ae hh
  refine az (fun s t H e=>match s with|s5a=>t 0=.sl false false p0.length (ab (eI .i64) p0)∧t 1=.sl false false p1.length (ab (eI .i64) p1)∧t 5=.int .i64 s5a) (fun o x t H e=>match o with|(.inl _)=>x=.exit 0|(.inr r)=>x=.ret∧gT .clean tab none [.tmp 4] ⟨t,H,e⟩=some (.clean (.bool r),none)) ho6 ?_ ?_ ?_
  ·refine⟨?_,?_,?_⟩
   all_goals first|rfl|(simp only[w,seval,-Int.reduceToNat]<;>rfl)
  ·rintro s5a t H e Za c hh
   simp only[rP]at hh
   try simp only[w,seval,-Int.reduceToNat,Za]
   refine sp ak hh (fun _ hh =>?_) (fun _ hh =>?_)
   ·obtain⟨x8,hx8,hh⟩:=ae hh
    have ax8:=bH (eI .i64) hx8
    simp only[bZ]at ax8
    obtain⟨x9,hx9,hh⟩:=ae hh
    have ax9:=bH (eI .i64) hx9
    simp only[bZ]at ax9
    try simp only[w,seval,-Int.reduceToNat,Za,ax8,ax9]
    refine cj (by kernel_rfl) ?_
    try simp only[w,seval,-Int.reduceToNat,Za,ax8,ax9]
    refine sp ak hh (fun _ hh =>?_) (fun _ hh =>?_)
    ·cases hh
     try simp only[w,seval,-Int.reduceToNat,Za,ax8,ax9]
     refine yW ⟨rfl,?_⟩
     try simp only[w,seval,-Int.reduceToNat,Za,ax8,ax9]
    ·cases hh
     try simp only[w,seval,-Int.reduceToNat,Za,ax8,ax9]
     refine jg ?_
     refine⟨?_,?_,?_⟩
     all_goals first|rfl|(simp only[w,seval,-Int.reduceToNat,Za,ax8,ax9]<;>rfl)
   ·cases hh
    try simp only[w,seval,-Int.reduceToNat,Za]
    refine kX ?_
    exact rfl
  ·rintro x t H e hx
   rcases o6 with _|ra
   ·dsimp only at hx hh
    subst hx
    cases hh
    try simp only[w,seval,-Int.reduceToNat]
   ·dsimp only at hx hh
    obtain⟨rfl,hE⟩:=hx
    cases hh
    try simp only[bq,bh,bF,dw,du]
    exact hE
theorem zO:bM Tryz.prog 18 nE:=bM.of (mode := .clean) tok bR.none mixed Tryz.func18 (by kernel_rfl) ⟨by kernel_rfl,by kernel_rfl⟩ (fun _=>Nat.le_of_ble_eq_true (by kernel_rfl)) (fun x r h=>BW x.1 x.2 r h)
noncomputable def jL:=eN (dR (iI (eI .i64))) (fun x:(List Int)=>fT x) (fun r:(List Int) =>.clean (.sl false false r.length (ab (eI .i64) r)))
theorem fD (p0:(List Int)):jL none [.sl false false p0.length (ab (eI .i64) p0)]=(fT p0).map fun r:(List Int)=>(.clean (.sl false false r.length (ab (eI .i64) r)),none):=aJ _ _ _ (p0)
theorem LU (p0:(List Int)) (r:(List Int)) (hh:fT p0=some r):aP .clean tab aV FU Tryz.f169 none [.sl false false p0.length (ab (eI .i64) p0)]=some (.clean (.sl false false r.length (ab (eI .i64) r)),none):=by
 refine ax rfl Tryz.ntmps169 Tryz.results169 ?_
 unfold fT at hh
 try simp only[w,seval,-Int.reduceToNat]
 obtain⟨o4,ho4,hh⟩:=ae hh
 refine az (fun s t H e=>match s with|s3a=>t 0=.sl false false p0.length (ab (eI .i64) p0)∧t 3=.int .i64 s3a) (fun o x t H e=>match o with|s3ax=>x=.exit 0∧t 0=.sl false false p0.length (ab (eI .i64) p0)∧t 3=.int .i64 s3ax) ho4 ?_ ?_ ?_
 ·refine⟨?_,?_⟩
  all_goals first|rfl|(simp only[w,seval,-Int.reduceToNat]<;>rfl)
 ·rintro s3a t H e Za c hh
  simp only[tu]at hh
  try simp only[w,seval,-Int.reduceToNat,Za]
  refine sp bB hh (fun _ hh =>?_) (fun _ hh =>?_)
  ·obtain⟨x6,hx6,hh⟩:=ae hh
   have ax6:=bH (eI .i64) hx6
   simp only[bZ]at ax6
   try simp only[w,seval,-Int.reduceToNat,Za,ax6]
   refine sp ak hh (fun _ hh =>?_) (fun _ hh =>?_)
   ·cases hh
    try simp only[w,seval,-Int.reduceToNat,Za,ax6]
    refine jg ?_
    refine⟨?_,?_⟩
    all_goals first|rfl|(simp only[w,seval,-Int.reduceToNat,Za,ax6]<;>rfl)
   ·cases hh
    try simp only[w,seval,-Int.reduceToNat,Za,ax6]
    refine kX ?_
    refine⟨rfl,⟨?_,?_⟩⟩
    all_goals first|rfl|(simp only[w,seval,-Int.reduceToNat,Za,ax6]<;>rfl)
  ·cases hh
   try simp only[w,seval,-Int.reduceToNat,Za]
   refine kX ?_
   refine⟨rfl,⟨?_,?_⟩⟩
   all_goals first|rfl|(simp only[w,seval,-Int.reduceToNat,Za]<;>rfl)
 ·rintro x t H e hx
  obtain⟨s3ax,rfl⟩:∃z,z=o4:=⟨_,rfl⟩
  dsimp only at hx hh
  obtain⟨rfl,Zax⟩:=hx
  obtain⟨x8,hx8,hh⟩:=ae hh
  obtain⟨q9a,q9b,q9c,q9d,q9e⟩:=Cy (eI .i64) hx8
  simp only[bZ]at q9e
  obtain⟨x10,hx10,hh⟩:=ae hh
  obtain⟨q11a,q11b,q11c⟩:=qh hx10
  replace q11a:=q11a.symm
  subst q11a
  cases hh
  try simp only[w,seval,-Int.reduceToNat,Zax,q9a,q9b,q9c,q9d,q9e,q11b,q11c]
theorem l8:bM Tryz.prog 169 jL:=bM.of (mode := .clean) tok bR.none mixed Tryz.func169 (by kernel_rfl) ⟨by kernel_rfl,by kernel_rfl⟩ (fun _=>Nat.le_of_ble_eq_true (by kernel_rfl)) (fun x r h=>LU x r h)
noncomputable def ld:=eN (dU (aI .i64) (dR (iI (eI .i64)))) (fun x:Int×(List Int)=>eV x.1 x.2) (fun r:ay =>.clean (.agg [.int .i64 r.ah,.sl false false r.aa.length (ab (eI .i64) r.aa)]))
theorem iR (p0:Int) (p1:(List Int)):ld none [.int .i64 p0,.sl false false p1.length (ab (eI .i64) p1)]=(eV p0 p1).map fun r:ay=>(.clean (.agg [.int .i64 r.ah,.sl false false r.aa.length (ab (eI .i64) r.aa)]),none):=aJ _ _ _ (p0,p1)
noncomputable def qG:Env:=(Am.ext aV 169 false jL)
theorem IQ:bR Tryz.prog qG:=(bR.none.add l8 false)
theorem vO:type_of% (ai @w<|ai @fD<|@qG.eq_1):=⟨@w,@fD,@qG.eq_1⟩
theorem LQ (p0:Int) (p1:(List Int)) (r:ay) (hh:eV p0 p1=some r):aP .clean tab qG FU Tryz.f133 none [.int .i64 p0,.sl false false p1.length (ab (eI .i64) p1)]=some (.clean (.agg [.int .i64 r.ah,.sl false false r.aa.length (ab (eI .i64) r.aa)]),none):=by
 refine ax rfl Tryz.ntmps133 Tryz.results133 ?_
 unfold eV at hh
 obtain⟨r1,hr1,hh⟩:=ae hh
 try simp only[vO,seval,-Int.reduceToNat,hr1]
 refine sp ak hh (fun _ hh =>?_) (fun _ hh =>?_)
 ·cases hh
  try simp only[vO,seval,-Int.reduceToNat,hr1]
 ·cases hh
  try simp only[vO,seval,-Int.reduceToNat,hr1]
theorem oI:bM Tryz.prog 133 ld:=bM.of (mode := .clean) tok IQ mixed Tryz.func133 (by kernel_rfl) ⟨by kernel_rfl,by kernel_rfl⟩ (fun _=>Nat.le_of_ble_eq_true (by kernel_rfl)) (fun x r h=>LQ x.1 x.2 r h)
noncomputable def Ak:=eN (dR (aI .i64)) (fun x:Int=>qX x) (fun r:ay =>.clean (.agg [.int .i64 r.ah,.sl false false r.aa.length (ab (eI .i64) r.aa)]))
theorem Kc (p0:Int):Ak none [.int .i64 p0]=(qX p0).map fun r:ay=>(.clean (.agg [.int .i64 r.ah,.sl false false r.aa.length (ab (eI .i64) r.aa)]),none):=aJ _ _ _ (p0)
noncomputable def wE:Env:=(Am.ext aV 133 false ld)
theorem Pe:bR Tryz.prog wE:=(bR.none.add oI false)
theorem ef:type_of% (ai @w<|ai @iR<|@wE.eq_1):=⟨@w,@iR,@wE.eq_1⟩
theorem RH (p0:Int) (r:ay) (hh:qX p0=some r):aP .clean tab wE FU Tryz.f103 none [.int .i64 p0]=some (.clean (.agg [.int .i64 r.ah,.sl false false r.aa.length (ab (eI .i64) r.aa)]),none):=by
 refine ax rfl Tryz.ntmps103 Tryz.results103 ?_
 unfold qX at hh
 try simp only[ef,seval,-Int.reduceToNat]
 refine sp ak hh (fun _ hh =>?_) (fun _ hh =>?_)
 ·cases hh
  try simp only[ef,seval,-Int.reduceToNat]
 ·try simp only[ef,seval,-Int.reduceToNat]
  obtain⟨o2,ho2,hh⟩:=ae hh
  refine mm 0 (fun s t H e=>match s with|s3j1=>∃v2j1:Nat,t 0=.int .i64 p0∧t 2=.ptr 2 v2j1 0∧t 3=.int .i64 s3j1∧H 2=some ⟨v2j1,49,[.int .i64 0,.sl true true 0 []],false,false,false⟩) (fun s=>s=o2) ?_ ?_
  ·rintro s3j1 t H e ⟨v2j1,Zj1⟩ rfl
   try dsimp only at hh
   try simp only[ef,seval,-Int.reduceToNat,Zj1]
   obtain⟨o15,ho15,hh⟩:=ae hh
   refine az (fun s t H e=>match s with|(s0b,l4b)=>∃v2b:Nat,∃v4b:Nat,t 0=.int .i64 s0b∧t 2=.ptr 2 v2b 0∧t 3=.int .i64 s3j1∧t 4=.buf 4 v4b 1 0 (l4b).length∧H 2=some ⟨v2b,49,[.int .i64 0,.sl true true 0 []],false,false,false⟩∧H 4=some ⟨v4b,3,ab (eI .i64) l4b,false,true,false⟩) (fun o x t H e=>match o with|l4bx=>x=.exit 0∧∃v2bx:Nat,∃v4bx:Nat,t 2=.ptr 2 v2bx 0∧t 3=.int .i64 s3j1∧t 4=.buf 4 v4bx 1 0 (l4bx).length∧H 2=some ⟨v2bx,49,[.int .i64 0,.sl true true 0 []],false,false,false⟩∧H 4=some ⟨v4bx,3,ab (eI .i64) l4bx,false,true,false⟩) ho15 ?_ ?_ ?_
   ·refine⟨v2j1,e,?_,?_,?_,?_,?_,?_⟩
    all_goals first|rfl|(simp only[ef,seval,-Int.reduceToNat,Zj1]<;>rfl)
   ·rintro⟨s0b,l4b⟩ t H e ⟨v2b,v4b,Zb⟩ c hh
    simp only[ug]at hh
    try simp only[ef,seval,-Int.reduceToNat,Zb]
    refine sp ak hh (fun _ hh =>?_) (fun _ hh =>?_)
    ·obtain⟨x17,hx17,hh⟩:=ae hh
     have q18:=qP hx17
     try simp only[ef,seval,-Int.reduceToNat,Zb,q18]
     refine sp ak hh (fun _ hh =>?_) (fun _ hh =>?_)
     ·obtain⟨x20,hx20,hh⟩:=ae hh
      obtain⟨q21a,q21b,q21c,q21d⟩:=ey (eI .i64) hx20
      simp only[bZ]at q21b
      obtain⟨x22,hx22,hh⟩:=ae hh
      have q23:=qy hx22
      cases hh
      try simp only[ef,seval,-Int.reduceToNat,Zb,q18,q21a,q21b,q21c,q21d,q23]
      refine jg ?_
      refine⟨v2b,e+1+1+1+1,?_,?_,?_,?_,?_,?_⟩
      all_goals first|rfl|(simp only[ef,seval,-Int.reduceToNat,Zb,q18,q21a,q21b,q21c,q21d,q23]<;>rfl)
     ·obtain⟨x24,hx24,hh⟩:=ae hh
      obtain⟨q25a,q25b,q25c,q25d⟩:=ey (eI .i64) hx24
      simp only[bZ]at q25b
      obtain⟨x26,hx26,hh⟩:=ae hh
      have q27:=qy hx26
      cases hh
      try simp only[ef,seval,-Int.reduceToNat,Zb,q18,q25a,q25b,q25c,q25d,q27]
      refine jg ?_
      refine⟨v2b,e+1+1+1,?_,?_,?_,?_,?_,?_⟩
      all_goals first|rfl|(simp only[ef,seval,-Int.reduceToNat,Zb,q18,q25a,q25b,q25c,q25d,q27]<;>rfl)
    ·cases hh
     try simp only[ef,seval,-Int.reduceToNat,Zb]
     refine kX ?_
     refine⟨rfl,⟨v2b,v4b,?_,?_,?_,?_,?_⟩⟩
     all_goals first|rfl|(simp only[ef,seval,-Int.reduceToNat,Zb]<;>rfl)
   ·rintro x t H e hx
    obtain⟨l4bx,rfl⟩:∃z,z=o15:=⟨_,rfl⟩
    dsimp only at hx hh
    obtain⟨rfl,⟨v2bx,v4bx,Zbx⟩⟩:=hx
    obtain⟨r28,hr28,hh⟩:=ae hh
    cases hh
    try simp only[ef,seval,-Int.reduceToNat,Zbx,hr28]
  ·clear hh
   have hh:=ho2
   try simp only[ef,seval,-Int.reduceToNat]
   refine sp ak hh (fun _ hh =>?_) (fun _ hh =>?_)
   ·cases hh
    try simp only[ef,seval,-Int.reduceToNat]
    rw[an]
    refine⟨_,rfl,?_⟩
    refine⟨0,?_,?_,?_,?_⟩
    all_goals first|rfl|(simp only[ef,seval,-Int.reduceToNat]<;>rfl)
   ·cases hh
    try simp only[ef,seval,-Int.reduceToNat]
    rw[an]
    refine⟨_,rfl,?_⟩
    refine⟨0,?_,?_,?_,?_⟩
    all_goals first|rfl|(simp only[ef,seval,-Int.reduceToNat]<;>rfl)
theorem PF:bM Tryz.prog 103 Ak:=bM.of (mode := .clean) tok Pe mixed Tryz.func103 (by kernel_rfl) ⟨by kernel_rfl,by kernel_rfl⟩ (fun _=>Nat.le_of_ble_eq_true (by kernel_rfl)) (fun x r h=>RH x r h)
noncomputable def jY:=eN (dR (dm ib)) (fun x:ay=>dc x) (fun r:Bool =>.clean (.bool r))
theorem gL (p0_0:Int) (p0_1:(List Int)):jY none [.agg [.int .i64 p0_0,.sl false false p0_1.length (ab (eI .i64) p0_1)]]=(dc (ay.mk p0_0 p0_1)).map fun r:Bool=>(.clean (.bool r),none):=aJ _ _ _ ((ay.mk p0_0 p0_1))
theorem JB (p0:ay) (r:Bool) (hh:dc p0=some r):aP .clean tab aV FU Tryz.f111 none [.agg [.int .i64 p0.ah,.sl false false p0.aa.length (ab (eI .i64) p0.aa)]]=some (.clean (.bool r),none):=by
 refine ax rfl Tryz.ntmps111 Tryz.results111 ?_
 unfold dc at hh
 try simp only[w,seval,-Int.reduceToNat]
 obtain⟨o5,ho5,hh⟩:=ae hh
 refine az (fun s t H e=>match s with|s3a=>∃v1a:Nat,t 1=.ptr 1 v1a 0∧t 3=.int .i64 s3a∧H 1=some ⟨v1a,49,[.int .i64 p0.ah,.sl false false p0.aa.length (ab (eI .i64) p0.aa)],false,false,false⟩) (fun o x t H e=>match o with|(.inl _)=>x=.exit 0∧∃v1ax:Nat,t 1=.ptr 1 v1ax 0∧H 1=some ⟨v1ax,49,[.int .i64 p0.ah,.sl false false p0.aa.length (ab (eI .i64) p0.aa)],false,false,false⟩|(.inr r)=>x=.ret∧gT .clean tab none [.tmp 2] ⟨t,H,e⟩=some (.clean (.bool r),none)) ho5 ?_ ?_ ?_
 ·refine⟨0,?_,?_,?_⟩
  all_goals first|rfl|(simp only[w,seval,-Int.reduceToNat]<;>rfl)
 ·rintro s3a t H e ⟨v1a,Za⟩ c hh
  simp only[np]at hh
  try simp only[w,seval,-Int.reduceToNat,Za]
  refine sp ak hh (fun _ hh =>?_) (fun _ hh =>?_)
  ·obtain⟨x7,hx7,hh⟩:=ae hh
   have ax7:=bH (eI .i64) hx7
   simp only[bZ]at ax7
   try simp only[w,seval,-Int.reduceToNat,Za,ax7]
   refine sp aX hh (fun _ hh =>?_) (fun _ hh =>?_)
   ·cases hh
    try simp only[w,seval,-Int.reduceToNat,Za,ax7]
    refine yW ⟨rfl,?_⟩
    try simp only[w,seval,-Int.reduceToNat,Za,ax7]
   ·have ax7:=bH (eI .i64) hx7
    simp only[bZ]at ax7
    try simp only[w,seval,-Int.reduceToNat,Za,ax7,ax7]
    refine sp ak hh (fun _ hh =>?_) (fun _ hh =>?_)
    ·cases hh
     try simp only[w,seval,-Int.reduceToNat,Za,ax7,ax7]
     refine yW ⟨rfl,?_⟩
     try simp only[w,seval,-Int.reduceToNat,Za,ax7,ax7]
    ·cases hh
     try simp only[w,seval,-Int.reduceToNat,Za,ax7,ax7]
     refine jg ?_
     refine⟨v1a,?_,?_,?_⟩
     all_goals first|rfl|(simp only[w,seval,-Int.reduceToNat,Za,ax7,ax7]<;>rfl)
  ·cases hh
   try simp only[w,seval,-Int.reduceToNat,Za]
   refine kX ?_
   refine⟨rfl,⟨v1a,?_,?_⟩⟩
   all_goals first|rfl|(simp only[w,seval,-Int.reduceToNat,Za]<;>rfl)
 ·rintro x t H e hx
  rcases o5 with _|ra
  ·dsimp only at hx hh
   obtain⟨rfl,⟨v1ax,Zax⟩⟩:=hx
   try simp only[w,seval,-Int.reduceToNat,Zax]
   obtain⟨o10,ho10,hh⟩:=ae hh
   refine bW 0 (fun s t H e=>match s with|s44j2=>∃v1j2:Nat,t 1=.ptr 1 v1j2 0∧t 4=.int .i64 (p0.aa.length:Int)∧t 44=.bool s44j2∧H 1=some ⟨v1j2,49,[.int .i64 p0.ah,.sl false false p0.aa.length (ab (eI .i64) p0.aa)],false,false,false⟩) (fun s=>s=o10) ?_ ?_
   ·rintro s44j2 t H e ⟨v1j2,Zj2⟩ rfl
    try dsimp only at hh
    try simp only[w,seval,-Int.reduceToNat,Zj2]
    refine sp ak hh (fun _ hh =>?_) (fun _ hh =>?_)
    ·cases hh
     try simp only[w,seval,-Int.reduceToNat,Zj2]
    ·try simp only[w,seval,-Int.reduceToNat,Zj2]
     refine sp aX hh (fun _ hh =>?_) (fun _ hh =>?_)
     ·cases hh
      try simp only[w,seval,-Int.reduceToNat,Zj2]
     ·obtain⟨x13,hx13,hh⟩:=ae hh
      have ax13:=bH (eI .i64) hx13
      simp only[bZ]at ax13
      cases hh
      try simp only[w,seval,-Int.reduceToNat,Zj2,ax13]
   ·clear hh
    have hh:=ho10
    try simp only[w,seval,-Int.reduceToNat,Zax]
    refine sp aX hh (fun _ hh =>?_) (fun _ hh =>?_)
    ·cases hh
     try simp only[w,seval,-Int.reduceToNat,Zax]
     rw[an]
     refine⟨_,rfl,?_⟩
     refine⟨v1ax,?_,?_,?_,?_⟩
     all_goals first|rfl|(simp only[w,seval,-Int.reduceToNat,Zax]<;>rfl)
    ·try simp only[w,seval,-Int.reduceToNat,Zax]
     refine sp aX hh (fun _ hh =>?_) (fun _ hh =>?_)
     ·cases hh
      try simp only[w,seval,-Int.reduceToNat,Zax]
      rw[an]
      refine⟨_,rfl,?_⟩
      refine⟨v1ax,?_,?_,?_,?_⟩
      all_goals first|rfl|(simp only[w,seval,-Int.reduceToNat,Zax]<;>rfl)
     ·cases hh
      try simp only[w,seval,-Int.reduceToNat,Zax]
      rw[an]
      refine⟨_,rfl,?_⟩
      refine⟨v1ax,?_,?_,?_,?_⟩
      all_goals first|rfl|(simp only[w,seval,-Int.reduceToNat,Zax]<;>rfl)
  ·dsimp only at hx hh
   obtain⟨rfl,hE⟩:=hx
   cases hh
   try simp only[bq,bh,bF,dw,du]
   exact hE
theorem nc:bM Tryz.prog 111 jY:=bM.of (mode := .clean) tok bR.none mixed Tryz.func111 (by kernel_rfl) ⟨by kernel_rfl,by kernel_rfl⟩ (fun _=>Nat.le_of_ble_eq_true (by kernel_rfl)) (fun x r h=>JB x r h)
noncomputable def xv:=eN (dR (dm ib)) (fun x:ay=>oN x) (fun r:ay =>.clean (.agg [.int .i64 r.ah,.sl false false r.aa.length (ab (eI .i64) r.aa)]))
theorem Fm (p0_0:Int) (p0_1:(List Int)):xv none [.agg [.int .i64 p0_0,.sl false false p0_1.length (ab (eI .i64) p0_1)]]=(oN (ay.mk p0_0 p0_1)).map fun r:ay=>(.clean (.agg [.int .i64 r.ah,.sl false false r.aa.length (ab (eI .i64) r.aa)]),none):=aJ _ _ _ ((ay.mk p0_0 p0_1))
noncomputable def tY:Env:=(Am.ext (Am.ext aV 111 false jY) 133 false ld)
theorem Lr:bR Tryz.prog tY:=((bR.none.add nc false).add oI false)
theorem yq:type_of% (ai @w<|ai @gL<|ai @iR<|@tY.eq_1):=⟨@w,@gL,@iR,@tY.eq_1⟩
theorem Pt (p0:ay) (r:ay) (hh:oN p0=some r):aP .clean tab tY FU Tryz.f131 none [.agg [.int .i64 p0.ah,.sl false false p0.aa.length (ab (eI .i64) p0.aa)]]=some (.clean (.agg [.int .i64 r.ah,.sl false false r.aa.length (ab (eI .i64) r.aa)]),none):=by
 refine ax rfl Tryz.ntmps131 Tryz.results131 ?_
 unfold oN at hh
 obtain⟨r1,hr1,hh⟩:=ae hh
 try simp only[yq,seval,-Int.reduceToNat,hr1]
 refine sp ak hh (fun _ hh =>?_) (fun _ hh =>?_)
 ·cases hh
  try simp only[yq,seval,-Int.reduceToNat,hr1]
 ·obtain⟨r3,hr3,hh⟩:=ae hh
  cases hh
  try simp only[yq,seval,-Int.reduceToNat,hr1,hr3]
theorem L5:bM Tryz.prog 131 xv:=bM.of (mode := .clean) tok Lr mixed Tryz.func131 (by kernel_rfl) ⟨by kernel_rfl,by kernel_rfl⟩ (fun _=>Nat.le_of_ble_eq_true (by kernel_rfl)) (fun x r h=>Pt x r h)
noncomputable def jZ:=eN (dU (iI (eI .i64)) (dR (aI .i64))) (fun x:(List Int)×Int=>fJ x.1 x.2) (fun r:Int =>.clean (.int .i64 r))
theorem gM (p0:(List Int)) (p1:Int):jZ none [.sl false false p0.length (ab (eI .i64) p0),.int .i64 p1]=(fJ p0 p1).map fun r:Int=>(.clean (.int .i64 r),none):=aJ _ _ _ (p0,p1)
theorem JC (p0:(List Int)) (p1:Int) (r:Int) (hh:fJ p0 p1=some r):aP .clean tab aV FU Tryz.f175 none [.sl false false p0.length (ab (eI .i64) p0),.int .i64 p1]=some (.clean (.int .i64 r),none):=by
 refine ax rfl Tryz.ntmps175 Tryz.results175 ?_
 unfold fJ at hh
 try simp only[w,seval,-Int.reduceToNat]
 refine sp ak hh (fun _ hh =>?_) (fun _ hh =>?_)
 ·obtain⟨x2,hx2,hh⟩:=ae hh
  have ax2:=bH (eI .i64) hx2
  simp only[bZ]at ax2
  cases hh
  try simp only[w,seval,-Int.reduceToNat,ax2]
 ·cases hh
  try simp only[w,seval,-Int.reduceToNat]
theorem nd:bM Tryz.prog 175 jZ:=bM.of (mode := .clean) tok bR.none mixed Tryz.func175 (by kernel_rfl) ⟨by kernel_rfl,by kernel_rfl⟩ (fun _=>Nat.le_of_ble_eq_true (by kernel_rfl)) (fun x r h=>JC x.1 x.2 r h)
noncomputable def sf:=eN (dU (iI (eI .i64)) (dR (iI (eI .i64)))) (fun x:(List Int)×(List Int)=>je x.1 x.2) (fun r:(List Int) =>.clean (.sl false false r.length (ab (eI .i64) r)))
theorem tn (p0:(List Int)) (p1:(List Int)):sf none [.sl false false p0.length (ab (eI .i64) p0),.sl false false p1.length (ab (eI .i64) p1)]=(je p0 p1).map fun r:(List Int)=>(.clean (.sl false false r.length (ab (eI .i64) r)),none):=aJ _ _ _ (p0,p1)
noncomputable def oB:Env:=(Am.ext (Am.ext aV 169 false jL) 175 false jZ)
theorem Gn:bR Tryz.prog oB:=((bR.none.add l8 false).add nd false)
theorem bY:type_of% (ai @w<|ai @fD<|ai @gM<|@oB.eq_1):=⟨@w,@fD,@gM,@oB.eq_1⟩
theorem JE (p0:(List Int)) (p1:(List Int)) (r:(List Int)) (hh:je p0 p1=some r):aP .clean tab oB FU Tryz.f154 none [.sl false false p0.length (ab (eI .i64) p0),.sl false false p1.length (ab (eI .i64) p1)]=some (.clean (.sl false false r.length (ab (eI .i64) r)),none):=by
 refine ax rfl Tryz.ntmps154 Tryz.results154 ?_
 unfold je at hh
 obtain⟨x1,hx1,hh⟩:=ae hh
 obtain⟨q2a,q2b,q2c,q2d,q2e⟩:=mk_one (eI .i64) hx1
 simp only[bZ]at q2d
 try simp only[bY,seval,-Int.reduceToNat,q2a,q2b,q2c,q2d,q2e]
 obtain⟨o27,ho27,hh⟩:=ae hh
 refine az (fun s t H e=>match s with|(s6a,l5a)=>∃v5a:Nat,t 0=.sl false false p0.length (ab (eI .i64) p0)∧t 1=.sl false false p1.length (ab (eI .i64) p1)∧t 5=.buf 5 v5a 1 0 (l5a).length∧t 6=.int .i64 s6a∧H 5=some ⟨v5a,3,ab (eI .i64) l5a,false,true,false⟩) (fun o x t H e=>match o with|l5ax=>x=.exit 0∧∃v5ax:Nat,t 5=.buf 5 v5ax 1 0 (l5ax).length∧H 5=some ⟨v5ax,3,ab (eI .i64) l5ax,false,true,false⟩) ho27 ?_ ?_ ?_
 ·refine⟨1,?_,?_,?_,?_,?_⟩
  all_goals first|rfl|(simp only[bY,seval,-Int.reduceToNat,q2a,q2b,q2c,q2d,q2e]<;>rfl)
 ·rintro⟨s6a,l5a⟩ t H e ⟨v5a,Za⟩ c hh
  simp only[ns]at hh
  try simp only[bY,seval,-Int.reduceToNat,q2a,q2b,q2c,q2d,q2e,Za]
  refine sp ak hh (fun _ hh =>?_) (fun _ hh =>?_)
  ·try simp only[bY,seval,-Int.reduceToNat,q2a,q2b,q2c,q2d,q2e,Za]
   obtain⟨o40,ho40,hh⟩:=ae hh
   refine az (fun s t H e=>match s with|(s7e,s8e,l5e)=>∃v5e:Nat,t 0=.sl false false p0.length (ab (eI .i64) p0)∧t 1=.sl false false p1.length (ab (eI .i64) p1)∧t 5=.buf 5 v5e 1 0 (l5e).length∧t 6=.int .i64 s6a∧t 7=.int .i64 s7e∧t 8=.int .i64 s8e∧H 5=some ⟨v5e,3,ab (eI .i64) l5e,false,true,false⟩) (fun o x t H e=>match o with|l5ex=>x=.exit 2∧∃v5ex:Nat,t 0=.sl false false p0.length (ab (eI .i64) p0)∧t 1=.sl false false p1.length (ab (eI .i64) p1)∧t 5=.buf 5 v5ex 1 0 (l5ex).length∧t 6=.int .i64 s6a∧H 5=some ⟨v5ex,3,ab (eI .i64) l5ex,false,true,false⟩) ho40 ?_ ?_ ?_
   ·refine⟨v5a,?_,?_,?_,?_,?_,?_,?_⟩
    all_goals first|rfl|(simp only[bY,seval,-Int.reduceToNat,q2a,q2b,q2c,q2d,q2e,Za]<;>rfl)
   ·rintro⟨s7e,s8e,l5e⟩ t H e ⟨v5e,Ze⟩ c hh
    simp only[nt]at hh
    try simp only[bY,seval,-Int.reduceToNat,q2a,q2b,q2c,q2d,q2e,Ze]
    obtain⟨o41,ho41,hh⟩:=ae hh
    refine bW 0 (fun s t H e=>match s with|s29j7=>∃v5j7:Nat,t 0=.sl false false p0.length (ab (eI .i64) p0)∧t 1=.sl false false p1.length (ab (eI .i64) p1)∧t 5=.buf 5 v5j7 1 0 (l5e).length∧t 6=.int .i64 s6a∧t 7=.int .i64 s7e∧t 8=.int .i64 s8e∧t 29=.bool s29j7∧H 5=some ⟨v5j7,3,ab (eI .i64) l5e,false,true,false⟩) (fun s=>s=o41) ?_ ?_
    ·rintro s29j7 t H e ⟨v5j7,Zj7⟩ rfl
     try dsimp only at hh
     try simp only[bY,seval,-Int.reduceToNat,q2a,q2b,q2c,q2d,q2e,Zj7]
     refine sp ak hh (fun _ hh =>?_) (fun _ hh =>?_)
     ·obtain⟨x43,hx43,hh⟩:=ae hh
      have ax43:=bH (eI .i64) hx43
      simp only[bZ]at ax43
      obtain⟨x44,hx44,hh⟩:=ae hh
      have ax44:=bH (eI .i64) hx44
      simp only[bZ]at ax44
      obtain⟨r45,hr45,hh⟩:=ae hh
      try simp only[bY,seval,-Int.reduceToNat,q2a,q2b,q2c,q2d,q2e,Zj7,ax43,ax44,hr45]
      refine cj (by kernel_rfl) ?_
      obtain⟨x46,hx46,hh⟩:=ae hh
      have q47:=qP hx46
      have ax43:=bH (eI .i64) hx43
      simp only[bZ]at ax43
      have p48:=jJ (eI .i64) (x':=x46) (fo:=0) (cs:=[.int .i64 x46]) hx43 rfl (Nat.le_of_ble_eq_true rfl)
      simp only[bZ,Nat.add_zero]at p48
      have up48:=p48
      simp only[putCells,List.length_cons,List.length_nil,Nat.zero_add,Nat.reduceAdd]at up48
      obtain⟨x49,hx49,hh⟩:=ae hh
      have q50:=qy hx49
      cases hh
      try simp only[bY,seval,-Int.reduceToNat,q2a,q2b,q2c,q2d,q2e,Zj7,ax43,ax44,hr45,q47,ax43,p48,up48,q50]
      refine jg ?_
      refine⟨v5j7,?_,?_,?_,?_,?_,?_,?_⟩
      all_goals first|rfl|(simp only[bY,seval,-Int.reduceToNat,q2a,q2b,q2c,q2d,q2e,Zj7,ax43,ax44,hr45,q47,ax43,p48,up48,q50]<;>rfl)
     ·cases hh
      try simp only[bY,seval,-Int.reduceToNat,q2a,q2b,q2c,q2d,q2e,Zj7]
      refine kX ?_
      refine⟨rfl,⟨v5j7,?_,?_,?_,?_,?_⟩⟩
      all_goals first|rfl|(simp only[bY,seval,-Int.reduceToNat,q2a,q2b,q2c,q2d,q2e,Zj7]<;>rfl)
    ·clear hh
     have hh:=ho41
     try simp only[bY,seval,-Int.reduceToNat,q2a,q2b,q2c,q2d,q2e,Ze]
     refine sp aX hh (fun _ hh =>?_) (fun _ hh =>?_)
     ·cases hh
      try simp only[bY,seval,-Int.reduceToNat,q2a,q2b,q2c,q2d,q2e,Ze]
      rw[an]
      refine⟨_,rfl,?_⟩
      refine⟨v5e,?_,?_,?_,?_,?_,?_,?_,?_⟩
      all_goals first|rfl|(simp only[bY,seval,-Int.reduceToNat,q2a,q2b,q2c,q2d,q2e,Ze]<;>rfl)
     ·cases hh
      try simp only[bY,seval,-Int.reduceToNat,q2a,q2b,q2c,q2d,q2e,Ze]
      rw[an]
      refine⟨_,rfl,?_⟩
      refine⟨v5e,?_,?_,?_,?_,?_,?_,?_,?_⟩
      all_goals first|rfl|(simp only[bY,seval,-Int.reduceToNat,q2a,q2b,q2c,q2d,q2e,Ze]<;>rfl)
   ·rintro x t H e hx
    obtain⟨l5ex,rfl⟩:∃z,z=o40:=⟨_,rfl⟩
    dsimp only at hx hh
    obtain⟨rfl,⟨v5ex,Zex⟩⟩:=hx
    cases hh
    try simp only[bY,seval,-Int.reduceToNat,q2a,q2b,q2c,q2d,q2e,Zex]
    refine jg ?_
    refine⟨v5ex,?_,?_,?_,?_,?_⟩
    all_goals first|rfl|(simp only[bY,seval,-Int.reduceToNat,q2a,q2b,q2c,q2d,q2e,Zex]<;>rfl)
  ·cases hh
   try simp only[bY,seval,-Int.reduceToNat,q2a,q2b,q2c,q2d,q2e,Za]
   refine kX ?_
   refine⟨rfl,⟨v5a,?_,?_⟩⟩
   all_goals first|rfl|(simp only[bY,seval,-Int.reduceToNat,q2a,q2b,q2c,q2d,q2e,Za]<;>rfl)
 ·rintro x t H e hx
  obtain⟨l5ax,rfl⟩:∃z,z=o27:=⟨_,rfl⟩
  dsimp only at hx hh
  obtain⟨rfl,⟨v5ax,Zax⟩⟩:=hx
  obtain⟨r52,hr52,hh⟩:=ae hh
  cases hh
  try simp only[bY,seval,-Int.reduceToNat,q2a,q2b,q2c,q2d,q2e,Zax,hr52]
theorem GX:bM Tryz.prog 154 sf:=bM.of (mode := .clean) tok Gn mixed Tryz.func154 (by kernel_rfl) ⟨by kernel_rfl,by kernel_rfl⟩ (fun _=>Nat.le_of_ble_eq_true (by kernel_rfl)) (fun x r h=>JE x.1 x.2 r h)
noncomputable def vo:=eN (dU (iI (eI .i64)) (dR (iI (eI .i64)))) (fun x:(List Int)×(List Int)=>me x.1 x.2) (fun r:Bool =>.clean (.bool r))
theorem Cj (p0:(List Int)) (p1:(List Int)):vo none [.sl false false p0.length (ab (eI .i64) p0),.sl false false p1.length (ab (eI .i64) p1)]=(me p0 p1).map fun r:Bool=>(.clean (.bool r),none):=aJ _ _ _ (p0,p1)
noncomputable def qF:Env:=(Am.ext aV 175 false jZ)
theorem IP:bR Tryz.prog qF:=(bR.none.add nd false)
theorem gj:type_of% (ai @w<|ai @gM<|@qF.eq_1):=⟨@w,@gM,@qF.eq_1⟩
theorem LP (p0:(List Int)) (p1:(List Int)) (r:Bool) (hh:me p0 p1=some r):aP .clean tab qF FU Tryz.f153 none [.sl false false p0.length (ab (eI .i64) p0),.sl false false p1.length (ab (eI .i64) p1)]=some (.clean (.bool r),none):=by
 refine ax rfl Tryz.ntmps153 Tryz.results153 ?_
 unfold me at hh
 try simp only[gj,seval,-Int.reduceToNat]
 obtain⟨o5,ho5,hh⟩:=ae hh
 refine az (fun s t H e=>match s with|s5a=>t 0=.sl false false p0.length (ab (eI .i64) p0)∧t 1=.sl false false p1.length (ab (eI .i64) p1)∧t 5=.int .i64 s5a) (fun o x t H e=>match o with|(.inl _)=>x=.exit 0|(.inr r)=>x=.ret∧gT .clean tab none [.tmp 4] ⟨t,H,e⟩=some (.clean (.bool r),none)) ho5 ?_ ?_ ?_
 ·refine⟨?_,?_,?_⟩
  all_goals first|rfl|(simp only[gj,seval,-Int.reduceToNat]<;>rfl)
 ·rintro s5a t H e Za c hh
  simp only[oO]at hh
  try simp only[gj,seval,-Int.reduceToNat,Za]
  refine sp ak hh (fun _ hh =>?_) (fun _ hh =>?_)
  ·obtain⟨r7,hr7,hh⟩:=ae hh
   obtain⟨r8,hr8,hh⟩:=ae hh
   try simp only[gj,seval,-Int.reduceToNat,Za,hr7,hr8]
   refine sp ak hh (fun _ hh =>?_) (fun _ hh =>?_)
   ·cases hh
    try simp only[gj,seval,-Int.reduceToNat,Za,hr7,hr8]
    refine yW ⟨rfl,?_⟩
    try simp only[gj,seval,-Int.reduceToNat,Za,hr7,hr8]
   ·cases hh
    try simp only[gj,seval,-Int.reduceToNat,Za,hr7,hr8]
    refine jg ?_
    refine⟨?_,?_,?_⟩
    all_goals first|rfl|(simp only[gj,seval,-Int.reduceToNat,Za,hr7,hr8]<;>rfl)
  ·cases hh
   try simp only[gj,seval,-Int.reduceToNat,Za]
   refine kX ?_
   exact rfl
 ·rintro x t H e hx
  rcases o5 with _|ra
  ·dsimp only at hx hh
   subst hx
   cases hh
   try simp only[gj,seval,-Int.reduceToNat]
  ·dsimp only at hx hh
   obtain⟨rfl,hE⟩:=hx
   cases hh
   try simp only[bq,bh,bF,dw,du]
   exact hE
theorem J5:bM Tryz.prog 153 vo:=bM.of (mode := .clean) tok IP mixed Tryz.func153 (by kernel_rfl) ⟨by kernel_rfl,by kernel_rfl⟩ (fun _=>Nat.le_of_ble_eq_true (by kernel_rfl)) (fun x r h=>LP x.1 x.2 r h)
noncomputable def oo:=eN (dU (iI (eI .i64)) (dR (iI (eI .i64)))) (fun x:(List Int)×(List Int)=>j8 x.1 x.2) (fun r:(List Int) =>.clean (.sl false false r.length (ab (eI .i64) r)))
theorem oM (p0:(List Int)) (p1:(List Int)):oo none [.sl false false p0.length (ab (eI .i64) p0),.sl false false p1.length (ab (eI .i64) p1)]=(j8 p0 p1).map fun r:(List Int)=>(.clean (.sl false false r.length (ab (eI .i64) r)),none):=aJ _ _ _ (p0,p1)
noncomputable def oA:Env:=(Am.ext (Am.ext aV 169 false jL) 175 false jZ)
theorem Gm:bR Tryz.prog oA:=((bR.none.add l8 false).add nd false)
theorem eu:type_of% (ai @w<|ai @fD<|ai @gM<|@oA.eq_1):=⟨@w,@fD,@gM,@oA.eq_1⟩
theorem JD (p0:(List Int)) (p1:(List Int)) (r:(List Int)) (hh:j8 p0 p1=some r):aP .clean tab oA FU Tryz.f168 none [.sl false false p0.length (ab (eI .i64) p0),.sl false false p1.length (ab (eI .i64) p1)]=some (.clean (.sl false false r.length (ab (eI .i64) r)),none):=by
 refine ax rfl Tryz.ntmps168 Tryz.results168 ?_
 unfold j8 at hh
 try simp only[eu,seval,-Int.reduceToNat]
 obtain⟨o9,ho9,hh⟩:=ae hh
 refine az (fun s t H e=>match s with|(s6a,s7a,l5a)=>∃v5a:Nat,t 0=.sl false false p0.length (ab (eI .i64) p0)∧t 1=.sl false false p1.length (ab (eI .i64) p1)∧t 5=.buf 5 v5a 1 0 (l5a).length∧t 6=.int .i64 s6a∧t 7=.int .i64 s7a∧H 5=some ⟨v5a,3,ab (eI .i64) l5a,false,true,false⟩) (fun o x t H e=>match o with|l5ax=>x=.exit 0∧∃v5ax:Nat,t 5=.buf 5 v5ax 1 0 (l5ax).length∧H 5=some ⟨v5ax,3,ab (eI .i64) l5ax,false,true,false⟩) ho9 ?_ ?_ ?_
 ·refine⟨1,?_,?_,?_,?_,?_,?_⟩
  all_goals first|rfl|(simp only[eu,seval,-Int.reduceToNat]<;>rfl)
 ·rintro⟨s6a,s7a,l5a⟩ t H e ⟨v5a,Za⟩ c hh
  simp only[nq]at hh
  try simp only[eu,seval,-Int.reduceToNat,Za]
  refine sp ak hh (fun _ hh =>?_) (fun _ hh =>?_)
  ·obtain⟨x11,hx11,hh⟩:=ae hh
   have ax11:=bH (eI .i64) hx11
   simp only[bZ]at ax11
   obtain⟨r12,hr12,hh⟩:=ae hh
   try simp only[eu,seval,-Int.reduceToNat,Za,ax11,hr12]
   refine cj (by kernel_rfl) ?_
   try simp only[eu,seval,-Int.reduceToNat,Za,ax11,hr12]
   refine sp ak hh (fun _ hh =>?_) (fun _ hh =>?_)
   ·obtain⟨x14,hx14,hh⟩:=ae hh
    obtain⟨q15a,q15b,q15c,q15d⟩:=ey (eI .i64) hx14
    simp only[bZ]at q15b
    cases hh
    try simp only[eu,seval,-Int.reduceToNat,Za,ax11,hr12,q15a,q15b,q15c,q15d]
    refine jg ?_
    refine⟨e+1+1+1+1+1+1,?_,?_,?_,?_,?_,?_⟩
    all_goals first|rfl|(simp only[eu,seval,-Int.reduceToNat,Za,ax11,hr12,q15a,q15b,q15c,q15d]<;>rfl)
   ·obtain⟨x16,hx16,hh⟩:=ae hh
    obtain⟨q17a,q17b,q17c,q17d⟩:=ey (eI .i64) hx16
    simp only[bZ]at q17b
    cases hh
    try simp only[eu,seval,-Int.reduceToNat,Za,ax11,hr12,q17a,q17b,q17c,q17d]
    refine jg ?_
    refine⟨e+1+1+1+1,?_,?_,?_,?_,?_,?_⟩
    all_goals first|rfl|(simp only[eu,seval,-Int.reduceToNat,Za,ax11,hr12,q17a,q17b,q17c,q17d]<;>rfl)
  ·cases hh
   try simp only[eu,seval,-Int.reduceToNat,Za]
   refine kX ?_
   refine⟨rfl,⟨v5a,?_,?_⟩⟩
   all_goals first|rfl|(simp only[eu,seval,-Int.reduceToNat,Za]<;>rfl)
 ·rintro x t H e hx
  obtain⟨l5ax,rfl⟩:∃z,z=o9:=⟨_,rfl⟩
  dsimp only at hx hh
  obtain⟨rfl,⟨v5ax,Zax⟩⟩:=hx
  obtain⟨r18,hr18,hh⟩:=ae hh
  cases hh
  try simp only[eu,seval,-Int.reduceToNat,Zax,hr18]
theorem wR:bM Tryz.prog 168 oo:=bM.of (mode := .clean) tok Gm mixed Tryz.func168 (by kernel_rfl) ⟨by kernel_rfl,by kernel_rfl⟩ (fun _=>Nat.le_of_ble_eq_true (by kernel_rfl)) (fun x r h=>JD x.1 x.2 r h)
noncomputable def pW:=eN (dU (iI (eI .i64)) (dR (iI (eI .i64)))) (fun x:(List Int)×(List Int)=>mf x.1 x.2) (fun r:(List Int)×(List Int) =>.clean (.tup [.sl false false r.1.length (ab (eI .i64) r.1),.sl false false r.2.length (ab (eI .i64) r.2)]))
theorem qT (p0:(List Int)) (p1:(List Int)):pW none [.sl false false p0.length (ab (eI .i64) p0),.sl false false p1.length (ab (eI .i64) p1)]=(mf p0 p1).map fun r:(List Int)×(List Int)=>(.clean (.tup [.sl false false r.1.length (ab (eI .i64) r.1),.sl false false r.2.length (ab (eI .i64) r.2)]),none):=aJ _ _ _ (p0,p1)
noncomputable def qH:Env:=(Am.keep 7 (Am.ext (Am.ext (Am.ext (Am.ext aV 153 false vo) 154 false sf) 168 false oo) 169 false jL))
theorem IS:bR Tryz.prog qH:=(bR.keep ((((bR.none.add J5 false).add GX false).add wR false).add l8 false) 7)
theorem cV:type_of% (ai @w<|ai @Cj<|ai @tn<|ai @oM<|ai @fD<|@qH.eq_1):=⟨@w,@Cj,@tn,@oM,@fD,@qH.eq_1⟩
theorem LR (p0:(List Int)) (p1:(List Int)) (r:(List Int)×(List Int)) (hh:mf p0 p1=some r):aP .clean tab qH FU Tryz.f151 none [.sl false false p0.length (ab (eI .i64) p0),.sl false false p1.length (ab (eI .i64) p1)]=some (.clean (.tup [.sl false false r.1.length (ab (eI .i64) r.1),.sl false false r.2.length (ab (eI .i64) r.2)]),none):=by
 refine ax rfl Tryz.ntmps151 Tryz.results151 ?_
 unfold mf at hh
 obtain⟨x1,hx1,hh⟩:=ae hh
 obtain⟨q2a,q2b,q2c,q2d,q2e⟩:=mk_one (eI .i64) hx1
 simp only[bZ]at q2d
 try simp only[cV,seval,-Int.reduceToNat,q2a,q2b,q2c,q2d,q2e]
 obtain⟨o29,ho29,hh⟩:=ae hh
 refine az (fun s t H e=>match s with|(s7a,s8a,l6a)=>∃v6a:Nat,t 0=.sl false false p0.length (ab (eI .i64) p0)∧t 1=.sl false false p1.length (ab (eI .i64) p1)∧t 6=.buf 6 v6a 1 0 (l6a).length∧t 7=.sl false false s7a.length (ab (eI .i64) s7a)∧t 8=.int .i64 s8a∧H 6=some ⟨v6a,3,ab (eI .i64) l6a,false,true,false⟩) (fun o x t H e=>match o with|(s7ax,l6ax)=>x=.exit 0∧∃v6ax:Nat,t 6=.buf 6 v6ax 1 0 (l6ax).length∧t 7=.sl false false s7ax.length (ab (eI .i64) s7ax)∧H 6=some ⟨v6ax,3,ab (eI .i64) l6ax,false,true,false⟩) ho29 ?_ ?_ ?_
 ·refine⟨1,?_,?_,?_,?_,?_,?_⟩
  all_goals first|rfl|(simp only[cV,seval,-Int.reduceToNat,q2a,q2b,q2c,q2d,q2e]<;>rfl)
 ·rintro⟨s7a,s8a,l6a⟩ t H e ⟨v6a,Za⟩ c hh
  simp only[oP]at hh
  try simp only[cV,seval,-Int.reduceToNat,q2a,q2b,q2c,q2d,q2e,Za]
  refine sp ak hh (fun _ hh =>?_) (fun _ hh =>?_)
  ·obtain⟨x31,hx31,hh⟩:=ae hh
   have ax31:=bH (eI .i64) hx31
   simp only[bZ]at ax31
   obtain⟨x32,hx32,hh⟩:=ae hh
   obtain⟨q33a,q33b,q33c,q33d⟩:=Tt (eI .i64) hx32
   simp only[aN,bZ,List.length_cons,Nat.zero_add,Nat.reduceAdd]at q33a q33b
   obtain⟨r34,hr34,hh⟩:=ae hh
   try simp only[cV,seval,-Int.reduceToNat,q2a,q2b,q2c,q2d,q2e,Za,ax31,q33a,q33b,q33c,q33d,hr34]
   obtain⟨o42,ho42,hh⟩:=ae hh
   refine az (fun s t H e=>match s with|(s9c,s10c)=>∃v6c:Nat,t 0=.sl false false p0.length (ab (eI .i64) p0)∧t 1=.sl false false p1.length (ab (eI .i64) p1)∧t 6=.buf 6 v6c 1 0 (l6a).length∧t 7=.sl false false r34.length (ab (eI .i64) r34)∧t 8=.int .i64 s8a∧t 9=.int .i64 s9c∧t 10=.int .i64 s10c∧H 6=some ⟨v6c,3,ab (eI .i64) l6a,false,true,false⟩) (fun o x t H e=>match o with|s9cx=>x=.exit 2∧∃v6cx:Nat,t 0=.sl false false p0.length (ab (eI .i64) p0)∧t 1=.sl false false p1.length (ab (eI .i64) p1)∧t 6=.buf 6 v6cx 1 0 (l6a).length∧t 7=.sl false false r34.length (ab (eI .i64) r34)∧t 8=.int .i64 s8a∧t 9=.int .i64 s9cx∧H 6=some ⟨v6cx,3,ab (eI .i64) l6a,false,true,false⟩) ho42 ?_ ?_ ?_
   ·refine⟨v6a,?_,?_,?_,?_,?_,?_,?_,?_⟩
    all_goals first|rfl|(simp only[cV,seval,-Int.reduceToNat,q2a,q2b,q2c,q2d,q2e,Za,ax31,q33a,q33b,q33c,q33d,hr34]<;>rfl)
   ·rintro⟨s9c,s10c⟩ t H e ⟨v6c,Zc⟩ c hh
    simp only[mg]at hh
    try simp only[cV,seval,-Int.reduceToNat,q2a,q2b,q2c,q2d,q2e,ax31,q33a,q33b,q33c,q33d,hr34,Zc]
    refine sp ak hh (fun _ hh =>?_) (fun _ hh =>?_)
    ·obtain⟨x44,hx44,hh⟩:=ae hh
     have q45:=qy hx44
     have i46:=tn p1 ([x44])
     simp only[aN,bZ,List.length_cons,List.length_nil,Nat.zero_add,Nat.reduceAdd,List.length_set]at i46
     obtain⟨r47,hr47,hh⟩:=ae hh
     obtain⟨r48,hr48,hh⟩:=ae hh
     try simp only[cV,seval,-Int.reduceToNat,q2a,q2b,q2c,q2d,q2e,ax31,q33a,q33b,q33c,q33d,hr34,Zc,q45,i46,hr47,hr48]
     refine sp ak hh (fun _ hh =>?_) (fun _ hh =>?_)
     ·cases hh
      try simp only[cV,seval,-Int.reduceToNat,q2a,q2b,q2c,q2d,q2e,ax31,q33a,q33b,q33c,q33d,hr34,Zc,q45,i46,hr47,hr48]
      refine jg ?_
      refine⟨v6c,?_,?_,?_,?_,?_,?_,?_,?_⟩
      all_goals first|rfl|(simp only[cV,seval,-Int.reduceToNat,q2a,q2b,q2c,q2d,q2e,ax31,q33a,q33b,q33c,q33d,hr34,Zc,q45,i46,hr47,hr48]<;>rfl)
     ·cases hh
      try simp only[cV,seval,-Int.reduceToNat,q2a,q2b,q2c,q2d,q2e,ax31,q33a,q33b,q33c,q33d,hr34,Zc,q45,i46,hr47,hr48]
      refine jg ?_
      refine⟨v6c,?_,?_,?_,?_,?_,?_,?_,?_⟩
      all_goals first|rfl|(simp only[cV,seval,-Int.reduceToNat,q2a,q2b,q2c,q2d,q2e,ax31,q33a,q33b,q33c,q33d,hr34,Zc,q45,i46,hr47,hr48]<;>rfl)
    ·cases hh
     try simp only[cV,seval,-Int.reduceToNat,q2a,q2b,q2c,q2d,q2e,ax31,q33a,q33b,q33c,q33d,hr34,Zc]
     refine kX ?_
     refine⟨rfl,⟨v6c,?_,?_,?_,?_,?_,?_,?_⟩⟩
     all_goals first|rfl|(simp only[cV,seval,-Int.reduceToNat,q2a,q2b,q2c,q2d,q2e,ax31,q33a,q33b,q33c,q33d,hr34,Zc]<;>rfl)
   ·rintro x t H e hx
    obtain⟨s9cx,rfl⟩:∃z,z=o42:=⟨_,rfl⟩
    dsimp only at hx hh
    obtain⟨rfl,⟨v6cx,Zcx⟩⟩:=hx
    obtain⟨x50,hx50,hh⟩:=ae hh
    have ax50:=bH (eI .i64) hx50
    simp only[bZ]at ax50
    have p51:=jJ (eI .i64) (x':=s9cx) (fo:=0) (cs:=[.int .i64 s9cx]) hx50 rfl (Nat.le_of_ble_eq_true rfl)
    simp only[bZ,Nat.add_zero]at p51
    have up51:=p51
    simp only[putCells,List.length_cons,List.length_nil,Nat.zero_add,Nat.reduceAdd]at up51
    have i52:=fD ([s9cx])
    simp only[aN,bZ,List.length_cons,List.length_nil,Nat.zero_add,Nat.reduceAdd,List.length_set]at i52
    obtain⟨r53,hr53,hh⟩:=ae hh
    obtain⟨r54,hr54,hh⟩:=ae hh
    obtain⟨r55,hr55,hh⟩:=ae hh
    cases hh
    try simp only[cV,seval,-Int.reduceToNat,q2a,q2b,q2c,q2d,q2e,ax31,q33a,q33b,q33c,q33d,hr34,Zcx,ax50,p51,up51,i52,hr53,hr54,hr55]
    refine jg ?_
    refine⟨v6cx,?_,?_,?_,?_,?_,?_⟩
    all_goals first|rfl|(simp only[cV,seval,-Int.reduceToNat,q2a,q2b,q2c,q2d,q2e,ax31,q33a,q33b,q33c,q33d,hr34,Zcx,ax50,p51,up51,i52,hr53,hr54,hr55]<;>rfl)
  ·cases hh
   try simp only[cV,seval,-Int.reduceToNat,q2a,q2b,q2c,q2d,q2e,Za]
   refine kX ?_
   refine⟨rfl,⟨v6a,?_,?_,?_⟩⟩
   all_goals first|rfl|(simp only[cV,seval,-Int.reduceToNat,q2a,q2b,q2c,q2d,q2e,Za]<;>rfl)
 ·rintro x t H e hx
  rcases o29 with⟨s7ax,l6ax⟩
  dsimp only at hx hh
  obtain⟨rfl,⟨v6ax,Zax⟩⟩:=hx
  obtain⟨r56,hr56,hh⟩:=ae hh
  cases hh
  try simp only[cV,seval,-Int.reduceToNat,q2a,q2b,q2c,q2d,q2e,Zax,hr56]
theorem yY:bM Tryz.prog 151 pW:=bM.of (mode := .clean) tok IS mixed Tryz.func151 (by kernel_rfl) ⟨by kernel_rfl,by kernel_rfl⟩ (fun _=>Nat.le_of_ble_eq_true (by kernel_rfl)) (fun x r h=>LR x.1 x.2 r h)
noncomputable def xu:=eN (dU (dm ib) (dR (dm ib))) (fun x:ay×ay=>nn x.1 x.2) (fun r:ay×Int =>.clean (.tup [.agg [.int .i64 r.1.ah,.sl false false r.1.aa.length (ab (eI .i64) r.1.aa)],.int .i64 r.2]))
theorem Fl (p0_0:Int) (p0_1:(List Int)) (p1_0:Int) (p1_1:(List Int)):xu none [.agg [.int .i64 p0_0,.sl false false p0_1.length (ab (eI .i64) p0_1)],.agg [.int .i64 p1_0,.sl false false p1_1.length (ab (eI .i64) p1_1)]]=(nn (ay.mk p0_0 p0_1) (ay.mk p1_0 p1_1)).map fun r:ay×Int=>(.clean (.tup [.agg [.int .i64 r.1.ah,.sl false false r.1.aa.length (ab (eI .i64) r.1.aa)],.int .i64 r.2]),none):=aJ _ _ _ ((ay.mk p0_0 p0_1),(ay.mk p1_0 p1_1))
noncomputable def tX:Env:=(Am.ext (Am.ext (Am.ext aV 111 false jY) 133 false ld) 151 false pW)
theorem Lq:bR Tryz.prog tX:=(((bR.none.add nc false).add oI false).add yY false)
theorem eo:type_of% (ai @w<|ai @gL<|ai @iR<|ai @qT<|@tX.eq_1):=⟨@w,@gL,@iR,@qT,@tX.eq_1⟩
theorem Ps (p0:ay) (p1:ay) (r:ay×Int) (hh:nn p0 p1=some r):aP .clean tab tX FU Tryz.f112 none [.agg [.int .i64 p0.ah,.sl false false p0.aa.length (ab (eI .i64) p0.aa)],.agg [.int .i64 p1.ah,.sl false false p1.aa.length (ab (eI .i64) p1.aa)]]=some (.clean (.tup [.agg [.int .i64 r.1.ah,.sl false false r.1.aa.length (ab (eI .i64) r.1.aa)],.int .i64 r.2]),none):=by
 refine ax rfl Tryz.ntmps112 Tryz.results112 ?_
 unfold nn at hh
 obtain⟨r1,hr1,hh⟩:=ae hh
 try simp only[eo,seval,-Int.reduceToNat,hr1]
 obtain⟨o2,ho2,hh⟩:=ae hh
 refine bW 0 (fun s t H e=>match s with|s17j1=>∃v2j1:Nat,∃v3j1:Nat,∃v4j1:Nat,t 2=.ptr 2 v2j1 0∧t 3=.ptr 3 v3j1 0∧t 4=.ptr 4 v4j1 0∧t 17=.bool s17j1∧H 2=some ⟨v2j1,49,[.int .i64 p0.ah,.sl false false p0.aa.length (ab (eI .i64) p0.aa)],false,false,false⟩∧H 3=some ⟨v3j1,49,[.int .i64 p1.ah,.sl false false p1.aa.length (ab (eI .i64) p1.aa)],false,false,false⟩∧H 4=some ⟨v4j1,49,[.int .i64 0,.sl true true 0 []],false,false,false⟩) (fun s=>s=o2) ?_ ?_
 ·rintro s17j1 t H e ⟨v2j1,v3j1,v4j1,Zj1⟩ rfl
  try dsimp only at hh
  try simp only[eo,seval,-Int.reduceToNat,hr1,Zj1]
  refine sp ak hh (fun _ hh =>?_) (fun _ hh =>?_)
  ·cases hh
   try simp only[eo,seval,-Int.reduceToNat,hr1,Zj1]
  ·try simp only[eo,seval,-Int.reduceToNat,hr1,Zj1]
   obtain⟨o6,ho6,hh⟩:=ae hh
   refine az (fun s t H e=>match s with|(s6b,s7b)=>∃v4b:Nat,t 4=.ptr 4 v4b 0∧t 6=.sl false false s6b.length (ab (eI .i64) s6b)∧t 7=.sl false false s7b.length (ab (eI .i64) s7b)∧H 4=some ⟨v4b,49,[.int .i64 0,.sl true true 0 []],false,false,false⟩) (fun o x t H e=>match o with|s6bx=>x=.exit 0∧∃v4bx:Nat,t 4=.ptr 4 v4bx 0∧t 6=.sl false false s6bx.length (ab (eI .i64) s6bx)∧H 4=some ⟨v4bx,49,[.int .i64 0,.sl true true 0 []],false,false,false⟩) ho6 ?_ ?_ ?_
   ·refine⟨v4j1,?_,?_,?_,?_⟩
    all_goals first|rfl|(simp only[eo,seval,-Int.reduceToNat,hr1,Zj1]<;>rfl)
   ·rintro⟨s6b,s7b⟩ t H e ⟨v4b,Zb⟩ c hh
    simp only[nZ]at hh
    try simp only[eo,seval,-Int.reduceToNat,hr1,Zb]
    refine sp ak hh (fun _ hh =>?_) (fun _ hh =>?_)
    ·obtain⟨r8,hr8,hh⟩:=ae hh
     cases hh
     try simp only[eo,seval,-Int.reduceToNat,hr1,Zb,hr8]
     refine jg ?_
     refine⟨v4b,?_,?_,?_,?_⟩
     all_goals first|rfl|(simp only[eo,seval,-Int.reduceToNat,hr1,Zb,hr8]<;>rfl)
    ·cases hh
     try simp only[eo,seval,-Int.reduceToNat,hr1,Zb]
     refine kX ?_
     refine⟨rfl,⟨v4b,?_,?_,?_⟩⟩
     all_goals first|rfl|(simp only[eo,seval,-Int.reduceToNat,hr1,Zb]<;>rfl)
   ·rintro x t H e hx
    obtain⟨s6bx,rfl⟩:∃z,z=o6:=⟨_,rfl⟩
    dsimp only at hx hh
    obtain⟨rfl,⟨v4bx,Zbx⟩⟩:=hx
    obtain⟨r9,hr9,hh⟩:=ae hh
    cases hh
    try simp only[eo,seval,-Int.reduceToNat,hr1,Zbx,hr9]
 ·clear hh
  have hh:=ho2
  try simp only[eo,seval,-Int.reduceToNat,hr1]
  refine sp aX hh (fun _ hh =>?_) (fun _ hh =>?_)
  ·cases hh
   try simp only[eo,seval,-Int.reduceToNat,hr1]
   rw[an]
   refine⟨_,rfl,?_⟩
   refine⟨0,0,0,?_,?_,?_,?_,?_,?_,?_⟩
   all_goals first|rfl|(simp only[eo,seval,-Int.reduceToNat,hr1]<;>rfl)
  ·obtain⟨r11,hr11,hh⟩:=ae hh
   cases hh
   try simp only[eo,seval,-Int.reduceToNat,hr1,hr11]
   rw[an]
   refine⟨_,rfl,?_⟩
   refine⟨0,0,0,?_,?_,?_,?_,?_,?_,?_⟩
   all_goals first|rfl|(simp only[eo,seval,-Int.reduceToNat,hr1,hr11]<;>rfl)
theorem L4:bM Tryz.prog 112 xu:=bM.of (mode := .clean) tok Lq mixed Tryz.func112 (by kernel_rfl) ⟨by kernel_rfl,by kernel_rfl⟩ (fun _=>Nat.le_of_ble_eq_true (by kernel_rfl)) (fun x r h=>Ps x.1 x.2 r h)
noncomputable def vp:=eN (dU (iI (eI .i64)) (dR (iI (eI .i64)))) (fun x:(List Int)×(List Int)=>tr x.1 x.2) (fun r:(List Int) =>.clean (.sl false false r.length (ab (eI .i64) r)))
theorem vF (p0:(List Int)) (p1:(List Int)):vp none [.sl false false p0.length (ab (eI .i64) p0),.sl false false p1.length (ab (eI .i64) p1)]=(tr p0 p1).map fun r:(List Int)=>(.clean (.sl false false r.length (ab (eI .i64) r)),none):=aJ _ _ _ (p0,p1)
noncomputable def qI:Env:=(Am.ext (Am.ext aV 169 false jL) 175 false jZ)
theorem IT:bR Tryz.prog qI:=((bR.none.add l8 false).add nd false)
theorem di:type_of% (ai @w<|ai @fD<|ai @gM<|@qI.eq_1):=⟨@w,@fD,@gM,@qI.eq_1⟩
theorem LS (p0:(List Int)) (p1:(List Int)) (r:(List Int)) (hh:tr p0 p1=some r):aP .clean tab qI FU Tryz.f167 none [.sl false false p0.length (ab (eI .i64) p0),.sl false false p1.length (ab (eI .i64) p1)]=some (.clean (.sl false false r.length (ab (eI .i64) r)),none):=by
 refine ax rfl Tryz.ntmps167 Tryz.results167 ?_
 unfold tr at hh
 try simp only[di,seval,-Int.reduceToNat]
 obtain⟨o13,ho13,hh⟩:=ae hh
 refine az (fun s t H e=>match s with|(s6a,s7a,l5a)=>∃v5a:Nat,t 0=.sl false false p0.length (ab (eI .i64) p0)∧t 1=.sl false false p1.length (ab (eI .i64) p1)∧t 5=.buf 5 v5a 1 0 (l5a).length∧t 6=.int .i64 s6a∧t 7=.int .i64 s7a∧H 5=some ⟨v5a,3,ab (eI .i64) l5a,false,true,false⟩) (fun o x t H e=>match o with|l5ax=>x=.exit 0∧∃v5ax:Nat,t 5=.buf 5 v5ax 1 0 (l5ax).length∧H 5=some ⟨v5ax,3,ab (eI .i64) l5ax,false,true,false⟩) ho13 ?_ ?_ ?_
 ·refine⟨1,?_,?_,?_,?_,?_,?_⟩
  all_goals first|rfl|(simp only[di,seval,-Int.reduceToNat]<;>rfl)
 ·rintro⟨s6a,s7a,l5a⟩ t H e ⟨v5a,Za⟩ c hh
  simp only[zi]at hh
  try simp only[di,seval,-Int.reduceToNat,Za]
  obtain⟨o14,ho14,hh⟩:=ae hh
  refine bW 0 (fun s t H e=>match s with|s22j3=>∃v5j3:Nat,t 0=.sl false false p0.length (ab (eI .i64) p0)∧t 1=.sl false false p1.length (ab (eI .i64) p1)∧t 5=.buf 5 v5j3 1 0 (l5a).length∧t 6=.int .i64 s6a∧t 7=.int .i64 s7a∧t 22=.bool s22j3∧H 5=some ⟨v5j3,3,ab (eI .i64) l5a,false,true,false⟩) (fun s=>s=o14) ?_ ?_
  ·rintro s22j3 t H e ⟨v5j3,Zj3⟩ rfl
   try dsimp only at hh
   try simp only[di,seval,-Int.reduceToNat,Zj3]
   refine sp ak hh (fun _ hh =>?_) (fun _ hh =>?_)
   ·obtain⟨r16,hr16,hh⟩:=ae hh
    obtain⟨r17,hr17,hh⟩:=ae hh
    obtain⟨x18,hx18,hh⟩:=ae hh
    have q19:=qP hx18
    obtain⟨x20,hx20,hh⟩:=ae hh
    obtain⟨q21a,q21b,q21c,q21d⟩:=ey (eI .i64) hx20
    simp only[bZ]at q21b
    obtain⟨x22,hx22,hh⟩:=ae hh
    have q23:=qy hx22
    cases hh
    try simp only[di,seval,-Int.reduceToNat,Zj3,hr16,hr17,q19,q21a,q21b,q21c,q21d,q23]
    refine jg ?_
    refine⟨e+1,?_,?_,?_,?_,?_,?_⟩
    all_goals first|rfl|(simp only[di,seval,-Int.reduceToNat,Zj3,hr16,hr17,q19,q21a,q21b,q21c,q21d,q23]<;>rfl)
   ·cases hh
    try simp only[di,seval,-Int.reduceToNat,Zj3]
    refine kX ?_
    refine⟨rfl,⟨v5j3,?_,?_⟩⟩
    all_goals first|rfl|(simp only[di,seval,-Int.reduceToNat,Zj3]<;>rfl)
  ·clear hh
   have hh:=ho14
   try simp only[di,seval,-Int.reduceToNat,Za]
   refine sp aX hh (fun _ hh =>?_) (fun _ hh =>?_)
   ·cases hh
    try simp only[di,seval,-Int.reduceToNat,Za]
    rw[an]
    refine⟨_,rfl,?_⟩
    refine⟨v5a,?_,?_,?_,?_,?_,?_,?_⟩
    all_goals first|rfl|(simp only[di,seval,-Int.reduceToNat,Za]<;>rfl)
   ·try simp only[di,seval,-Int.reduceToNat,Za]
    refine sp aX hh (fun _ hh =>?_) (fun _ hh =>?_)
    ·cases hh
     try simp only[di,seval,-Int.reduceToNat,Za]
     rw[an]
     refine⟨_,rfl,?_⟩
     refine⟨v5a,?_,?_,?_,?_,?_,?_,?_⟩
     all_goals first|rfl|(simp only[di,seval,-Int.reduceToNat,Za]<;>rfl)
    ·cases hh
     try simp only[di,seval,-Int.reduceToNat,Za]
     rw[an]
     refine⟨_,rfl,?_⟩
     refine⟨v5a,?_,?_,?_,?_,?_,?_,?_⟩
     all_goals first|rfl|(simp only[di,seval,-Int.reduceToNat,Za]<;>rfl)
 ·rintro x t H e hx
  obtain⟨l5ax,rfl⟩:∃z,z=o13:=⟨_,rfl⟩
  dsimp only at hx hh
  obtain⟨rfl,⟨v5ax,Zax⟩⟩:=hx
  obtain⟨r26,hr26,hh⟩:=ae hh
  cases hh
  try simp only[di,seval,-Int.reduceToNat,Zax,hr26]
theorem J6:bM Tryz.prog 167 vp:=bM.of (mode := .clean) tok IT mixed Tryz.func167 (by kernel_rfl) ⟨by kernel_rfl,by kernel_rfl⟩ (fun _=>Nat.le_of_ble_eq_true (by kernel_rfl)) (fun x r h=>LS x.1 x.2 r h)
noncomputable def xt:=eN (dU (dm ib) (dR (dm ib))) (fun x:ay×ay=>lX x.1 x.2) (fun r:ay×ay×Int =>.clean (.tup [.agg [.int .i64 r.1.ah,.sl false false r.1.aa.length (ab (eI .i64) r.1.aa)],.agg [.int .i64 r.2.1.ah,.sl false false r.2.1.aa.length (ab (eI .i64) r.2.1.aa)],.int .i64 r.2.2]))
theorem Fk (p0_0:Int) (p0_1:(List Int)) (p1_0:Int) (p1_1:(List Int)):xt none [.agg [.int .i64 p0_0,.sl false false p0_1.length (ab (eI .i64) p0_1)],.agg [.int .i64 p1_0,.sl false false p1_1.length (ab (eI .i64) p1_1)]]=(lX (ay.mk p0_0 p0_1) (ay.mk p1_0 p1_1)).map fun r:ay×ay×Int=>(.clean (.tup [.agg [.int .i64 r.1.ah,.sl false false r.1.aa.length (ab (eI .i64) r.1.aa)],.agg [.int .i64 r.2.1.ah,.sl false false r.2.1.aa.length (ab (eI .i64) r.2.1.aa)],.int .i64 r.2.2]),none):=aJ _ _ _ ((ay.mk p0_0 p0_1),(ay.mk p1_0 p1_1))
noncomputable def tW:Env:=(Am.ext (Am.ext (Am.ext (Am.ext (Am.ext aV 111 false jY) 133 false ld) 151 false pW) 167 false vp) 168 false oo)
theorem Lp:bR Tryz.prog tW:=(((((bR.none.add nc false).add oI false).add yY false).add J6 false).add wR false)
theorem cQ:type_of% (ai @w<|ai @gL<|ai @iR<|ai @qT<|ai @vF<|ai @oM<|@tW.eq_1):=⟨@w,@gL,@iR,@qT,@vF,@oM,@tW.eq_1⟩
theorem Pr (p0:ay) (p1:ay) (r:ay×ay×Int) (hh:lX p0 p1=some r):aP .clean tab tW FU Tryz.f132 none [.agg [.int .i64 p0.ah,.sl false false p0.aa.length (ab (eI .i64) p0.aa)],.agg [.int .i64 p1.ah,.sl false false p1.aa.length (ab (eI .i64) p1.aa)]]=some (.clean (.tup [.agg [.int .i64 r.1.ah,.sl false false r.1.aa.length (ab (eI .i64) r.1.aa)],.agg [.int .i64 r.2.1.ah,.sl false false r.2.1.aa.length (ab (eI .i64) r.2.1.aa)],.int .i64 r.2.2]),none):=by
 refine ax rfl Tryz.ntmps132 Tryz.results132 ?_
 unfold lX at hh
 obtain⟨r1,hr1,hh⟩:=ae hh
 try simp only[cQ,seval,-Int.reduceToNat,hr1]
 obtain⟨o2,ho2,hh⟩:=ae hh
 refine bW 0 (fun s t H e=>match s with|s16j1=>∃v2j1:Nat,∃v3j1:Nat,∃v4j1:Nat,∃v5j1:Nat,t 2=.ptr 2 v2j1 0∧t 3=.ptr 3 v3j1 0∧t 4=.ptr 4 v4j1 0∧t 5=.ptr 5 v5j1 0∧t 16=.bool s16j1∧H 2=some ⟨v2j1,49,[.int .i64 p0.ah,.sl false false p0.aa.length (ab (eI .i64) p0.aa)],false,false,false⟩∧H 3=some ⟨v3j1,49,[.int .i64 p1.ah,.sl false false p1.aa.length (ab (eI .i64) p1.aa)],false,false,false⟩∧H 4=some ⟨v4j1,49,[.int .i64 0,.sl true true 0 []],false,false,false⟩∧H 5=some ⟨v5j1,49,[.int .i64 0,.sl true true 0 []],false,false,false⟩) (fun s=>s=o2) ?_ ?_
 ·rintro s16j1 t H e ⟨v2j1,v3j1,v4j1,v5j1,Zj1⟩ rfl
  try dsimp only at hh
  try simp only[cQ,seval,-Int.reduceToNat,hr1,Zj1]
  refine sp ak hh (fun _ hh =>?_) (fun _ hh =>?_)
  ·cases hh
   try simp only[cQ,seval,-Int.reduceToNat,hr1,Zj1]
  ·try simp only[cQ,seval,-Int.reduceToNat,hr1,Zj1]
   refine sp ak hh (fun _ hh =>?_) (fun _ hh =>?_)
   ·cases hh
    try simp only[cQ,seval,-Int.reduceToNat,hr1,Zj1]
   ·obtain⟨r5,hr5,hh⟩:=ae hh
    try simp only[cQ,seval,-Int.reduceToNat,hr1,Zj1,hr5]
    obtain⟨o6,ho6,hh⟩:=ae hh
    refine bW 0 (fun s t H e=>match s with|s42j2=>∃v2j2:Nat,∃v3j2:Nat,∃v4j2:Nat,∃v5j2:Nat,t 2=.ptr 2 v2j2 0∧t 3=.ptr 3 v3j2 0∧t 4=.ptr 4 v4j2 0∧t 5=.ptr 5 v5j2 0∧t 7=.sl false false r5.1.length (ab (eI .i64) r5.1)∧t 8=.sl false false r5.2.length (ab (eI .i64) r5.2)∧t 42=.bool s42j2∧H 2=some ⟨v2j2,49,[.int .i64 p0.ah,.sl false false p0.aa.length (ab (eI .i64) p0.aa)],false,false,false⟩∧H 3=some ⟨v3j2,49,[.int .i64 p1.ah,.sl false false p1.aa.length (ab (eI .i64) p1.aa)],false,false,false⟩∧H 4=some ⟨v4j2,49,[.int .i64 0,.sl true true 0 []],false,false,false⟩∧H 5=some ⟨v5j2,49,[.int .i64 0,.sl true true 0 []],false,false,false⟩) (fun s=>s=o6) ?_ ?_
    ·rintro s42j2 t H e ⟨v2j2,v3j2,v4j2,v5j2,Zj2⟩ rfl
     try dsimp only at hh
     try simp only[cQ,seval,-Int.reduceToNat,hr1,hr5,Zj2]
     refine sp ak hh (fun _ hh =>?_) (fun _ hh =>?_)
     ·obtain⟨r8,hr8,hh⟩:=ae hh
      obtain⟨r9,hr9,hh⟩:=ae hh
      try simp only[cQ,seval,-Int.reduceToNat,hr1,hr5,Zj2,hr8,hr9]
      refine cj (by kernel_rfl) ?_
      cases hh
      try simp only[cQ,seval,-Int.reduceToNat,hr1,hr5,Zj2,hr8,hr9]
     ·have i10:=vF r5.1 ([1])
      simp only[aN,bZ,List.length_cons,List.length_nil,Nat.zero_add,Nat.reduceAdd,List.length_set]at i10
      obtain⟨r11,hr11,hh⟩:=ae hh
      obtain⟨r12,hr12,hh⟩:=ae hh
      obtain⟨r13,hr13,hh⟩:=ae hh
      obtain⟨r14,hr14,hh⟩:=ae hh
      try simp only[cQ,seval,-Int.reduceToNat,hr1,hr5,Zj2,i10,hr11,hr12,hr13,hr14]
      refine cj (by kernel_rfl) ?_
      cases hh
      try simp only[cQ,seval,-Int.reduceToNat,hr1,hr5,Zj2,i10,hr11,hr12,hr13,hr14]
    ·clear hh
     have hh:=ho6
     try simp only[cQ,seval,-Int.reduceToNat,hr1,Zj1,hr5]
     refine sp aX hh (fun _ hh =>?_) (fun _ hh =>?_)
     ·cases hh
      try simp only[cQ,seval,-Int.reduceToNat,hr1,Zj1,hr5]
      rw[an]
      refine⟨_,rfl,?_⟩
      refine⟨v2j1,v3j1,v4j1,v5j1,?_,?_,?_,?_,?_,?_,?_,?_,?_,?_,?_⟩
      all_goals first|rfl|(simp only[cQ,seval,-Int.reduceToNat,hr1,Zj1,hr5]<;>rfl)
     ·cases hh
      try simp only[cQ,seval,-Int.reduceToNat,hr1,Zj1,hr5]
      rw[an]
      refine⟨_,rfl,?_⟩
      refine⟨v2j1,v3j1,v4j1,v5j1,?_,?_,?_,?_,?_,?_,?_,?_,?_,?_,?_⟩
      all_goals first|rfl|(simp only[cQ,seval,-Int.reduceToNat,hr1,Zj1,hr5]<;>rfl)
 ·clear hh
  have hh:=ho2
  try simp only[cQ,seval,-Int.reduceToNat,hr1]
  refine sp aX hh (fun _ hh =>?_) (fun _ hh =>?_)
  ·cases hh
   try simp only[cQ,seval,-Int.reduceToNat,hr1]
   rw[an]
   refine⟨_,rfl,?_⟩
   refine⟨0,0,0,0,?_,?_,?_,?_,?_,?_,?_,?_,?_⟩
   all_goals first|rfl|(simp only[cQ,seval,-Int.reduceToNat,hr1]<;>rfl)
  ·obtain⟨r17,hr17,hh⟩:=ae hh
   cases hh
   try simp only[cQ,seval,-Int.reduceToNat,hr1,hr17]
   rw[an]
   refine⟨_,rfl,?_⟩
   refine⟨0,0,0,0,?_,?_,?_,?_,?_,?_,?_,?_,?_⟩
   all_goals first|rfl|(simp only[cQ,seval,-Int.reduceToNat,hr1,hr17]<;>rfl)
theorem L3:bM Tryz.prog 132 xt:=bM.of (mode := .clean) tok Lp mixed Tryz.func132 (by kernel_rfl) ⟨by kernel_rfl,by kernel_rfl⟩ (fun _=>Nat.le_of_ble_eq_true (by kernel_rfl)) (fun x r h=>Pr x.1 x.2 r h)
noncomputable def xx:=eN (dU (dm ib) (dR (dm ib))) (fun x:ay×ay=>qY x.1 x.2) (fun r:aT×Int =>.clean (.tup [.agg [.int .i64 r.1.cu.ah,.sl false false r.1.cu.aa.length (ab (eI .i64) r.1.cu.aa),.int .i64 r.1.ct.ah,.sl false false r.1.ct.aa.length (ab (eI .i64) r.1.ct.aa)],.int .i64 r.2]))
theorem Fp (p0_0:Int) (p0_1:(List Int)) (p1_0:Int) (p1_1:(List Int)):xx none [.agg [.int .i64 p0_0,.sl false false p0_1.length (ab (eI .i64) p0_1)],.agg [.int .i64 p1_0,.sl false false p1_1.length (ab (eI .i64) p1_1)]]=(qY (ay.mk p0_0 p0_1) (ay.mk p1_0 p1_1)).map fun r:aT×Int=>(.clean (.tup [.agg [.int .i64 r.1.cu.ah,.sl false false r.1.cu.aa.length (ab (eI .i64) r.1.cu.aa),.int .i64 r.1.ct.ah,.sl false false r.1.ct.aa.length (ab (eI .i64) r.1.ct.aa)],.int .i64 r.2]),none):=aJ _ _ _ ((ay.mk p0_0 p0_1),(ay.mk p1_0 p1_1))
noncomputable def ua:Env:=(Am.ext (Am.ext (Am.ext (Am.ext aV 111 false jY) 112 false xu) 131 false xv) 132 false xt)
theorem Lt:bR Tryz.prog ua:=((((bR.none.add nc false).add L4 false).add L5 false).add L3 false)
theorem dP:type_of% (ai @w<|ai @gL<|ai @Fl<|ai @Fm<|ai @Fk<|@ua.eq_1):=⟨@w,@gL,@Fl,@Fm,@Fk,@ua.eq_1⟩
theorem Pw (p0:ay) (p1:ay) (r:aT×Int) (hh:qY p0 p1=some r):aP .clean tab ua FU Tryz.f102 none [.agg [.int .i64 p0.ah,.sl false false p0.aa.length (ab (eI .i64) p0.aa)],.agg [.int .i64 p1.ah,.sl false false p1.aa.length (ab (eI .i64) p1.aa)]]=some (.clean (.tup [.agg [.int .i64 r.1.cu.ah,.sl false false r.1.cu.aa.length (ab (eI .i64) r.1.cu.aa),.int .i64 r.1.ct.ah,.sl false false r.1.ct.aa.length (ab (eI .i64) r.1.ct.aa)],.int .i64 r.2]),none):=by
 refine ax rfl Tryz.ntmps102 Tryz.results102 ?_
 unfold qY at hh
 obtain⟨r1,hr1,hh⟩:=ae hh
 try simp only[dP,seval,-Int.reduceToNat,hr1]
 obtain⟨o2,ho2,hh⟩:=ae hh
 refine bW 0 (fun s t H e=>match s with|s21j1=>∃v2j1:Nat,∃v3j1:Nat,∃v4j1:Nat,t 2=.ptr 2 v2j1 0∧t 3=.ptr 3 v3j1 0∧t 4=.ptr 4 v4j1 0∧t 21=.bool s21j1∧H 2=some ⟨v2j1,49,[.int .i64 p0.ah,.sl false false p0.aa.length (ab (eI .i64) p0.aa)],false,false,false⟩∧H 3=some ⟨v3j1,49,[.int .i64 p1.ah,.sl false false p1.aa.length (ab (eI .i64) p1.aa)],false,false,false⟩∧H 4=some ⟨v4j1,51,[.int .i64 0,.sl true true 0 [],.int .i64 0,.sl true true 0 []],false,false,false⟩) (fun s=>s=o2) ?_ ?_
 ·rintro s21j1 t H e ⟨v2j1,v3j1,v4j1,Zj1⟩ rfl
  try dsimp only at hh
  try simp only[dP,seval,-Int.reduceToNat,hr1,Zj1]
  refine sp ak hh (fun _ hh =>?_) (fun _ hh =>?_)
  ·cases hh
   try simp only[dP,seval,-Int.reduceToNat,hr1,Zj1]
  ·try simp only[dP,seval,-Int.reduceToNat,hr1,Zj1]
   refine sp ak hh (fun _ hh =>?_) (fun _ hh =>?_)
   ·cases hh
    try simp only[dP,seval,-Int.reduceToNat,hr1,Zj1]
   ·try simp only[dP,seval,-Int.reduceToNat,hr1,Zj1]
    obtain⟨o5,ho5,hh⟩:=ae hh
    refine mm 0 (fun s t H e=>match s with|(r2_0j2,r2_1j2,r3_0j2,r3_1j2)=>∃v2j2:Nat,∃v3j2:Nat,∃v4j2:Nat,t 2=.ptr 2 v2j2 0∧t 3=.ptr 3 v3j2 0∧t 4=.ptr 4 v4j2 0∧H 2=some ⟨v2j2,49,[.int .i64 r2_0j2,.sl false false r2_1j2.length (ab (eI .i64) r2_1j2)],false,false,false⟩∧H 3=some ⟨v3j2,49,[.int .i64 r3_0j2,.sl false false r3_1j2.length (ab (eI .i64) r3_1j2)],false,false,false⟩∧H 4=some ⟨v4j2,51,[.int .i64 0,.sl true true 0 [],.int .i64 0,.sl true true 0 []],false,false,false⟩) (fun s=>s=o5) ?_ ?_
    ·rintro⟨r2_0j2,r2_1j2,r3_0j2,r3_1j2⟩ t H e ⟨v2j2,v3j2,v4j2,Zj2⟩ rfl
     try dsimp only at hh
     obtain⟨r6,hr6,hh⟩:=ae hh
     obtain⟨r7,hr7,hh⟩:=ae hh
     obtain⟨r8,hr8,hh⟩:=ae hh
     cases hh
     try simp only[dP,seval,-Int.reduceToNat,hr1,Zj2,hr6,hr7,hr8]
    ·clear hh
     have hh:=ho5
     try simp only[dP,seval,-Int.reduceToNat,hr1,Zj1]
     refine sp ak hh (fun _ hh =>?_) (fun _ hh =>?_)
     ·obtain⟨r10,hr10,hh⟩:=ae hh
      obtain⟨r11,hr11,hh⟩:=ae hh
      cases hh
      try simp only[dP,seval,-Int.reduceToNat,hr1,Zj1,hr10,hr11]
      rw[an]
      refine⟨_,rfl,?_⟩
      refine⟨v2j1,v3j1,v4j1,?_,?_,?_,?_,?_,?_⟩
      all_goals first|rfl|(simp only[dP,seval,-Int.reduceToNat,hr1,Zj1,hr10,hr11]<;>rfl)
     ·cases hh
      try simp only[dP,seval,-Int.reduceToNat,hr1,Zj1]
      rw[an]
      refine⟨_,rfl,?_⟩
      refine⟨v2j1,v3j1,v4j1,?_,?_,?_,?_,?_,?_⟩
      all_goals first|rfl|(simp only[dP,seval,-Int.reduceToNat,hr1,Zj1]<;>rfl)
 ·clear hh
  have hh:=ho2
  try simp only[dP,seval,-Int.reduceToNat,hr1]
  refine sp aX hh (fun _ hh =>?_) (fun _ hh =>?_)
  ·cases hh
   try simp only[dP,seval,-Int.reduceToNat,hr1]
   rw[an]
   refine⟨_,rfl,?_⟩
   refine⟨0,0,0,?_,?_,?_,?_,?_,?_,?_⟩
   all_goals first|rfl|(simp only[dP,seval,-Int.reduceToNat,hr1]<;>rfl)
  ·obtain⟨r13,hr13,hh⟩:=ae hh
   cases hh
   try simp only[dP,seval,-Int.reduceToNat,hr1,hr13]
   rw[an]
   refine⟨_,rfl,?_⟩
   refine⟨0,0,0,?_,?_,?_,?_,?_,?_,?_⟩
   all_goals first|rfl|(simp only[dP,seval,-Int.reduceToNat,hr1,hr13]<;>rfl)
theorem L7:bM Tryz.prog 102 xx:=bM.of (mode := .clean) tok Lt mixed Tryz.func102 (by kernel_rfl) ⟨by kernel_rfl,by kernel_rfl⟩ (fun _=>Nat.le_of_ble_eq_true (by kernel_rfl)) (fun x r h=>Pw x.1 x.2 r h)
noncomputable def Al:=eN (dU (aI .i64) (dR (aI .i64))) (fun x:Int×Int=>vH x.1 x.2) (fun r:aT×Int =>.clean (.tup [.agg [.int .i64 r.1.cu.ah,.sl false false r.1.cu.aa.length (ab (eI .i64) r.1.cu.aa),.int .i64 r.1.ct.ah,.sl false false r.1.ct.aa.length (ab (eI .i64) r.1.ct.aa)],.int .i64 r.2]))
theorem Kd (p0:Int) (p1:Int):Al none [.int .i64 p0,.int .i64 p1]=(vH p0 p1).map fun r:aT×Int=>(.clean (.tup [.agg [.int .i64 r.1.cu.ah,.sl false false r.1.cu.aa.length (ab (eI .i64) r.1.cu.aa),.int .i64 r.1.ct.ah,.sl false false r.1.ct.aa.length (ab (eI .i64) r.1.ct.aa)],.int .i64 r.2]),none):=aJ _ _ _ (p0,p1)
noncomputable def wF:Env:=(Am.ext (Am.ext aV 102 false xx) 103 false Ak)
theorem Pf:bR Tryz.prog wF:=((bR.none.add L7 false).add PF false)
theorem Tm:type_of% (ai @w<|ai @Fp<|ai @Kc<|@wF.eq_1):=⟨@w,@Fp,@Kc,@wF.eq_1⟩
theorem RI (p0:Int) (p1:Int) (r:aT×Int) (hh:vH p0 p1=some r):aP .clean tab wF FU Tryz.f59 none [.int .i64 p0,.int .i64 p1]=some (.clean (.tup [.agg [.int .i64 r.1.cu.ah,.sl false false r.1.cu.aa.length (ab (eI .i64) r.1.cu.aa),.int .i64 r.1.ct.ah,.sl false false r.1.ct.aa.length (ab (eI .i64) r.1.ct.aa)],.int .i64 r.2]),none):=by
 refine ax rfl Tryz.ntmps59 Tryz.results59 ?_
 unfold vH at hh
 obtain⟨r1,hr1,hh⟩:=ae hh
 obtain⟨r2,hr2,hh⟩:=ae hh
 obtain⟨r3,hr3,hh⟩:=ae hh
 cases hh
 try simp only[Tm,seval,-Int.reduceToNat,hr1,hr2,hr3]
theorem PG:bM Tryz.prog 59 Al:=bM.of (mode := .clean) tok Pf mixed Tryz.func59 (by kernel_rfl) ⟨by kernel_rfl,by kernel_rfl⟩ (fun _=>Nat.le_of_ble_eq_true (by kernel_rfl)) (fun x r h=>RI x.1 x.2 r h)
noncomputable def tF:=eN (dR (aI .i64)) (fun x:Int=>nw x) (fun r:aT =>.clean (.agg [.int .i64 r.cu.ah,.sl false false r.cu.aa.length (ab (eI .i64) r.cu.aa),.int .i64 r.ct.ah,.sl false false r.ct.aa.length (ab (eI .i64) r.ct.aa)]))
theorem ue (p0:Int):tF none [.int .i64 p0]=(nw p0).map fun r:aT=>(.clean (.agg [.int .i64 r.cu.ah,.sl false false r.cu.aa.length (ab (eI .i64) r.cu.aa),.int .i64 r.ct.ah,.sl false false r.ct.aa.length (ab (eI .i64) r.ct.aa)]),none):=aJ _ _ _ (p0)
noncomputable def tZ:Env:=(Am.ext aV 59 false Al)
theorem Ls:bR Tryz.prog tZ:=(bR.none.add PG false)
theorem P8:type_of% (ai @w<|ai @Kd<|@tZ.eq_1):=⟨@w,@Kd,@tZ.eq_1⟩
theorem Pv (p0:Int) (r:aT) (hh:nw p0=some r):aP .clean tab tZ FU Tryz.f32 none [.int .i64 p0]=some (.clean (.agg [.int .i64 r.cu.ah,.sl false false r.cu.aa.length (ab (eI .i64) r.cu.aa),.int .i64 r.ct.ah,.sl false false r.ct.aa.length (ab (eI .i64) r.ct.aa)]),none):=by
 refine ax rfl Tryz.ntmps32 Tryz.results32 ?_
 unfold nw at hh
 obtain⟨r1,hr1,hh⟩:=ae hh
 cases hh
 try simp only[P8,seval,-Int.reduceToNat,hr1]
theorem B8:bM Tryz.prog 32 tF:=bM.of (mode := .clean) tok Ls mixed Tryz.func32 (by kernel_rfl) ⟨by kernel_rfl,by kernel_rfl⟩ (fun _=>Nat.le_of_ble_eq_true (by kernel_rfl)) (fun x r h=>Pv x r h)
noncomputable def oZ:=eN (dU (aI .i64) (dR (aI .i64))) (fun x:Int×Int=>gJ x.1 x.2) (fun r:cr =>.clean (.agg [.int .i64 r.bn.cu.ah,.sl false false r.bn.cu.aa.length (ab (eI .i64) r.bn.cu.aa),.int .i64 r.bn.ct.ah,.sl false false r.bn.ct.aa.length (ab (eI .i64) r.bn.ct.aa),.int .i64 r.aM.cu.ah,.sl false false r.aM.cu.aa.length (ab (eI .i64) r.aM.cu.aa),.int .i64 r.aM.ct.ah,.sl false false r.aM.ct.aa.length (ab (eI .i64) r.aM.ct.aa)]))
theorem uX (p0:Int) (p1:Int):oZ none [.int .i64 p0,.int .i64 p1]=(gJ p0 p1).map fun r:cr=>(.clean (.agg [.int .i64 r.bn.cu.ah,.sl false false r.bn.cu.aa.length (ab (eI .i64) r.bn.cu.aa),.int .i64 r.bn.ct.ah,.sl false false r.bn.ct.aa.length (ab (eI .i64) r.bn.ct.aa),.int .i64 r.aM.cu.ah,.sl false false r.aM.cu.aa.length (ab (eI .i64) r.aM.cu.aa),.int .i64 r.aM.ct.ah,.sl false false r.aM.ct.aa.length (ab (eI .i64) r.aM.ct.aa)]),none):=aJ _ _ _ (p0,p1)
noncomputable def lP:Env:=(Am.ext aV 32 false tF)
theorem BE:bR Tryz.prog lP:=(bR.none.add B8 false)
theorem DL:type_of% (ai @w<|ai @ue<|@lP.eq_1):=⟨@w,@ue,@lP.eq_1⟩
theorem Dn (p0:Int) (p1:Int) (r:cr) (hh:gJ p0 p1=some r):aP .clean tab lP FU Tryz.f35 none [.int .i64 p0,.int .i64 p1]=some (.clean (.agg [.int .i64 r.bn.cu.ah,.sl false false r.bn.cu.aa.length (ab (eI .i64) r.bn.cu.aa),.int .i64 r.bn.ct.ah,.sl false false r.bn.ct.aa.length (ab (eI .i64) r.bn.ct.aa),.int .i64 r.aM.cu.ah,.sl false false r.aM.cu.aa.length (ab (eI .i64) r.aM.cu.aa),.int .i64 r.aM.ct.ah,.sl false false r.aM.ct.aa.length (ab (eI .i64) r.aM.ct.aa)]),none):=by
 refine ax rfl Tryz.ntmps35 Tryz.results35 ?_
 unfold gJ at hh
 obtain⟨r1,hr1,hh⟩:=ae hh
 obtain⟨r2,hr2,hh⟩:=ae hh
 cases hh
 try simp only[DL,seval,-Int.reduceToNat,hr1,hr2]
theorem B7:bM Tryz.prog 35 oZ:=bM.of (mode := .clean) tok BE mixed Tryz.func35 (by kernel_rfl) ⟨by kernel_rfl,by kernel_rfl⟩ (fun _=>Nat.le_of_ble_eq_true (by kernel_rfl)) (fun x r h=>Dn x.1 x.2 r h)
noncomputable def iL:=eN (dR (dm ib)) (fun x:ay=>eh x) (fun r:Bool =>.clean (.bool r))
theorem fi (p0_0:Int) (p0_1:(List Int)):iL none [.agg [.int .i64 p0_0,.sl false false p0_1.length (ab (eI .i64) p0_1)]]=(eh (ay.mk p0_0 p0_1)).map fun r:Bool=>(.clean (.bool r),none):=aJ _ _ _ ((ay.mk p0_0 p0_1))
theorem Jv (p0:ay) (r:Bool) (hh:eh p0=some r):aP .clean tab aV FU Tryz.f97 none [.agg [.int .i64 p0.ah,.sl false false p0.aa.length (ab (eI .i64) p0.aa)]]=some (.clean (.bool r),none):=by
 refine ax rfl Tryz.ntmps97 Tryz.results97 ?_
 unfold eh at hh
 try simp only[w,seval,-Int.reduceToNat]
 obtain⟨o5,ho5,hh⟩:=ae hh
 refine az (fun s t H e=>match s with|s12a=>∃v1a:Nat,t 1=.ptr 1 v1a 0∧t 3=.int .i64 (p0.aa.length:Int)∧t 10=.sl false false p0.aa.length (ab (eI .i64) p0.aa)∧t 11=.int .i64 (p0.aa.length:Int)∧t 12=.int .i64 s12a∧H 1=some ⟨v1a,49,[.int .i64 p0.ah,.sl false false p0.aa.length (ab (eI .i64) p0.aa)],false,false,false⟩) (fun o x t H e=>match o with|(.inl _)=>x=.exit 0∧∃v1ax:Nat,t 1=.ptr 1 v1ax 0∧t 3=.int .i64 (p0.aa.length:Int)∧H 1=some ⟨v1ax,49,[.int .i64 p0.ah,.sl false false p0.aa.length (ab (eI .i64) p0.aa)],false,false,false⟩|(.inr r)=>x=.ret∧gT .clean tab none [.tmp 2] ⟨t,H,e⟩=some (.clean (.bool r),none)) ho5 ?_ ?_ ?_
 ·refine⟨0,?_,?_,?_,?_,?_,?_⟩
  all_goals first|rfl|(simp only[w,seval,-Int.reduceToNat]<;>rfl)
 ·rintro s12a t H e ⟨v1a,Za⟩ c hh
  simp only[mJ]at hh
  try simp only[w,seval,-Int.reduceToNat,Za]
  refine sp ak hh (fun _ hh =>?_) (fun _ hh =>?_)
  ·obtain⟨x7,hx7,hh⟩:=ae hh
   have ax7:=bH (eI .i64) hx7
   simp only[bZ]at ax7
   try simp only[w,seval,-Int.reduceToNat,Za,ax7]
   refine sp aX hh (fun _ hh =>?_) (fun _ hh =>?_)
   ·cases hh
    try simp only[w,seval,-Int.reduceToNat,Za,ax7]
    refine yW ⟨rfl,?_⟩
    try simp only[w,seval,-Int.reduceToNat,Za,ax7]
   ·try simp only[w,seval,-Int.reduceToNat,Za,ax7]
    refine sp ak hh (fun _ hh =>?_) (fun _ hh =>?_)
    ·cases hh
     try simp only[w,seval,-Int.reduceToNat,Za,ax7]
     refine yW ⟨rfl,?_⟩
     try simp only[w,seval,-Int.reduceToNat,Za,ax7]
    ·cases hh
     try simp only[w,seval,-Int.reduceToNat,Za,ax7]
     refine jg ?_
     refine⟨v1a,?_,?_,?_,?_,?_,?_⟩
     all_goals first|rfl|(simp only[w,seval,-Int.reduceToNat,Za,ax7]<;>rfl)
  ·cases hh
   try simp only[w,seval,-Int.reduceToNat,Za]
   refine kX ?_
   refine⟨rfl,⟨v1a,?_,?_,?_⟩⟩
   all_goals first|rfl|(simp only[w,seval,-Int.reduceToNat,Za]<;>rfl)
 ·rintro x t H e hx
  rcases o5 with _|ra
  ·dsimp only at hx hh
   obtain⟨rfl,⟨v1ax,Zax⟩⟩:=hx
   try simp only[w,seval,-Int.reduceToNat,Zax]
   refine sp ak hh (fun _ hh =>?_) (fun _ hh =>?_)
   ·cases hh
    try simp only[w,seval,-Int.reduceToNat,Zax]
   ·try simp only[w,seval,-Int.reduceToNat,Zax]
    refine sp aX hh (fun _ hh =>?_) (fun _ hh =>?_)
    ·obtain⟨x12,hx12,hh⟩:=ae hh
     have ax12:=bH (eI .i64) hx12
     simp only[bZ]at ax12
     cases hh
     try simp only[w,seval,-Int.reduceToNat,Zax,ax12]
    ·try simp only[w,seval,-Int.reduceToNat,Zax]
     refine sp bB hh (fun _ hh =>?_) (fun _ hh =>?_)
     ·obtain⟨x14,hx14,hh⟩:=ae hh
      have ax14:=bH (eI .i64) hx14
      simp only[bZ]at ax14
      cases hh
      try simp only[w,seval,-Int.reduceToNat,Zax,ax14]
     ·cases hh
      try simp only[w,seval,-Int.reduceToNat,Zax]
  ·dsimp only at hx hh
   obtain⟨rfl,hE⟩:=hx
   cases hh
   try simp only[bq,bh,bF,dw,du]
   exact hE
theorem kD:bM Tryz.prog 97 iL:=bM.of (mode := .clean) tok bR.none mixed Tryz.func97 (by kernel_rfl) ⟨by kernel_rfl,by kernel_rfl⟩ (fun _=>Nat.le_of_ble_eq_true (by kernel_rfl)) (fun x r h=>Jv x r h)
noncomputable def lD:=eN (dU Wf (dR (dm ib))) (fun x:Bool×ay=>fL x.1 x.2) (fun r:ay×Int =>.clean (.tup [.agg [.int .i64 r.1.ah,.sl false false r.1.aa.length (ab (eI .i64) r.1.aa)],.int .i64 r.2]))
theorem im (p0:Bool) (p1_0:Int) (p1_1:(List Int)):lD none [.bool p0,.agg [.int .i64 p1_0,.sl false false p1_1.length (ab (eI .i64) p1_1)]]=(fL p0 (ay.mk p1_0 p1_1)).map fun r:ay×Int=>(.clean (.tup [.agg [.int .i64 r.1.ah,.sl false false r.1.aa.length (ab (eI .i64) r.1.aa)],.int .i64 r.2]),none):=aJ _ _ _ (p0,(ay.mk p1_0 p1_1))
theorem Dk (p0:Bool) (p1:ay) (r:ay×Int) (hh:fL p0 p1=some r):aP .clean tab aV FU Tryz.f124 none [.bool p0,.agg [.int .i64 p1.ah,.sl false false p1.aa.length (ab (eI .i64) p1.aa)]]=some (.clean (.tup [.agg [.int .i64 r.1.ah,.sl false false r.1.aa.length (ab (eI .i64) r.1.aa)],.int .i64 r.2]),none):=by
 refine ax rfl Tryz.ntmps124 Tryz.results124 ?_
 unfold fL at hh
 try simp only[w,seval,-Int.reduceToNat]
 refine sp ak hh (fun _ hh =>?_) (fun _ hh =>?_)
 ·cases hh
  try simp only[w,seval,-Int.reduceToNat]
 ·cases hh
  try simp only[w,seval,-Int.reduceToNat]
theorem td:bM Tryz.prog 124 lD:=bM.of (mode := .clean) tok bR.none mixed Tryz.func124 (by kernel_rfl) ⟨by kernel_rfl,by kernel_rfl⟩ (fun _=>Nat.le_of_ble_eq_true (by kernel_rfl)) (fun x r h=>Dk x.1 x.2 r h)
noncomputable def oh:=eN (dR (aI .i64)) (fun x:Int=>iX x) (fun r:Bool =>.clean (.bool r))
theorem oK (p0:Int):oh none [.int .i64 p0]=(iX p0).map fun r:Bool=>(.clean (.bool r),none):=aJ _ _ _ (p0)
theorem Jy (p0:Int) (r:Bool) (hh:iX p0=some r):aP .clean tab aV FU Tryz.f166 none [.int .i64 p0]=some (.clean (.bool r),none):=by
 refine ax rfl Tryz.ntmps166 Tryz.results166 ?_
 unfold iX at hh
 cases hh
 try simp only[w,seval,-Int.reduceToNat]
theorem wQ:bM Tryz.prog 166 oh:=bM.of (mode := .clean) tok bR.none mixed Tryz.func166 (by kernel_rfl) ⟨by kernel_rfl,by kernel_rfl⟩ (fun _=>Nat.le_of_ble_eq_true (by kernel_rfl)) (fun x r h=>Jy x r h)
noncomputable def lF:=eN (dU (aI .i64) (dR (aI .i64))) (fun x:Int×Int=>fN x.1 x.2) (fun r:Int =>.clean (.int .i64 r))
theorem lU (p0:Int) (p1:Int):lF none [.int .i64 p0,.int .i64 p1]=(fN p0 p1).map fun r:Int=>(.clean (.int .i64 r),none):=aJ _ _ _ (p0,p1)
noncomputable def lO:Env:=(Am.ext aV 166 false oh)
theorem BD:bR Tryz.prog lO:=(bR.none.add wQ false)
theorem dE:type_of% (ai @w<|ai @oK<|@lO.eq_1):=⟨@w,@oK,@lO.eq_1⟩
theorem Dm (p0:Int) (p1:Int) (r:Int) (hh:fN p0 p1=some r):aP .clean tab lO FU Tryz.f128 none [.int .i64 p0,.int .i64 p1]=some (.clean (.int .i64 r),none):=by
 refine ax rfl Tryz.ntmps128 Tryz.results128 ?_
 unfold fN at hh
 obtain⟨r1,hr1,hh⟩:=ae hh
 obtain⟨r2,hr2,hh⟩:=ae hh
 try simp only[dE,seval,-Int.reduceToNat,hr1,hr2]
 refine sp ak hh (fun _ hh =>?_) (fun _ hh =>?_)
 ·try simp only[dE,seval,-Int.reduceToNat,hr1,hr2]
  refine sp ak hh (fun _ hh =>?_) (fun _ hh =>?_)
  ·cases hh
   try simp only[dE,seval,-Int.reduceToNat,hr1,hr2]
  ·cases hh
   try simp only[dE,seval,-Int.reduceToNat,hr1,hr2]
 ·try simp only[dE,seval,-Int.reduceToNat,hr1,hr2]
  refine sp ak hh (fun _ hh =>?_) (fun _ hh =>?_)
  ·cases hh
   try simp only[dE,seval,-Int.reduceToNat,hr1,hr2]
  ·try simp only[dE,seval,-Int.reduceToNat,hr1,hr2]
   refine sp ak hh (fun _ hh =>?_) (fun _ hh =>?_)
   ·cases hh
    try simp only[dE,seval,-Int.reduceToNat,hr1,hr2]
   ·try simp only[dE,seval,-Int.reduceToNat,hr1,hr2]
    refine sp ak hh (fun _ hh =>?_) (fun _ hh =>?_)
    ·cases hh
     try simp only[dE,seval,-Int.reduceToNat,hr1,hr2]
    ·cases hh
     try simp only[dE,seval,-Int.reduceToNat,hr1,hr2]
theorem ti:bM Tryz.prog 128 lF:=bM.of (mode := .clean) tok BD mixed Tryz.func128 (by kernel_rfl) ⟨by kernel_rfl,by kernel_rfl⟩ (fun _=>Nat.le_of_ble_eq_true (by kernel_rfl)) (fun x r h=>Dm x.1 x.2 r h)
noncomputable def lE:=eN (dU (iI (eI .i64)) (dR (iI (eI .i64)))) (fun x:(List Int)×(List Int)=>fe x.1 x.2) (fun r:Int =>.clean (.int .i64 r))
theorem lT (p0:(List Int)) (p1:(List Int)):lE none [.sl false false p0.length (ab (eI .i64) p0),.sl false false p1.length (ab (eI .i64) p1)]=(fe p0 p1).map fun r:Int=>(.clean (.int .i64 r),none):=aJ _ _ _ (p0,p1)
noncomputable def lN:Env:=(Am.ext aV 128 false lF)
theorem BC:bR Tryz.prog lN:=(bR.none.add ti false)
theorem cB:type_of% (ai @w<|ai @lU<|@lN.eq_1):=⟨@w,@lU,@lN.eq_1⟩
theorem Dl (p0:(List Int)) (p1:(List Int)) (r:Int) (hh:fe p0 p1=some r):aP .clean tab lN FU Tryz.f129 none [.sl false false p0.length (ab (eI .i64) p0),.sl false false p1.length (ab (eI .i64) p1)]=some (.clean (.int .i64 r),none):=by
 refine ax rfl Tryz.ntmps129 Tryz.results129 ?_
 unfold fe at hh
 try simp only[cB,seval,-Int.reduceToNat]
 refine sp ak hh (fun _ hh =>?_) (fun _ hh =>?_)
 ·obtain⟨r2,hr2,hh⟩:=ae hh
  cases hh
  try simp only[cB,seval,-Int.reduceToNat,hr2]
 ·try simp only[cB,seval,-Int.reduceToNat]
  obtain⟨o8,ho8,hh⟩:=ae hh
  refine az (fun s t H e=>match s with|s5a=>t 0=.sl false false p0.length (ab (eI .i64) p0)∧t 1=.sl false false p1.length (ab (eI .i64) p1)∧t 5=.int .i64 s5a) (fun o x t H e=>match o with|(.inl _)=>x=.exit 0|(.inr r)=>x=.ret∧gT .clean tab none [.tmp 4] ⟨t,H,e⟩=some (.clean (.int .i64 r),none)) ho8 ?_ ?_ ?_
  ·refine⟨?_,?_,?_⟩
   all_goals first|rfl|(simp only[cB,seval,-Int.reduceToNat]<;>rfl)
  ·rintro s5a t H e Za c hh
   simp only[kr]at hh
   try simp only[cB,seval,-Int.reduceToNat,Za]
   refine sp ak hh (fun _ hh =>?_) (fun _ hh =>?_)
   ·obtain⟨x10,hx10,hh⟩:=ae hh
    have ax10:=bH (eI .i64) hx10
    simp only[bZ]at ax10
    obtain⟨x11,hx11,hh⟩:=ae hh
    have ax11:=bH (eI .i64) hx11
    simp only[bZ]at ax11
    try simp only[cB,seval,-Int.reduceToNat,Za,ax10,ax11]
    refine cj (by kernel_rfl) ?_
    try simp only[cB,seval,-Int.reduceToNat,Za,ax10,ax11]
    refine sp ak hh (fun _ hh =>?_) (fun _ hh =>?_)
    ·have ax10:=bH (eI .i64) hx10
     simp only[bZ]at ax10
     have ax11:=bH (eI .i64) hx11
     simp only[bZ]at ax11
     obtain⟨r13,hr13,hh⟩:=ae hh
     try simp only[cB,seval,-Int.reduceToNat,Za,ax10,ax11,ax10,ax11,hr13]
     refine cj (by kernel_rfl) ?_
     cases hh
     try simp only[cB,seval,-Int.reduceToNat,Za,ax10,ax11,ax10,ax11,hr13]
     refine yW ⟨rfl,?_⟩
     try simp only[cB,seval,-Int.reduceToNat,Za,ax10,ax11,ax10,ax11,hr13]
    ·cases hh
     try simp only[cB,seval,-Int.reduceToNat,Za,ax10,ax11]
     refine jg ?_
     refine⟨?_,?_,?_⟩
     all_goals first|rfl|(simp only[cB,seval,-Int.reduceToNat,Za,ax10,ax11]<;>rfl)
   ·cases hh
    try simp only[cB,seval,-Int.reduceToNat,Za]
    refine kX ?_
    exact rfl
  ·rintro x t H e hx
   rcases o8 with _|ra
   ·dsimp only at hx hh
    subst hx
    cases hh
    try simp only[cB,seval,-Int.reduceToNat]
   ·dsimp only at hx hh
    obtain⟨rfl,hE⟩:=hx
    cases hh
    try simp only[bq,bh,bF,dw,du]
    exact hE
theorem te:bM Tryz.prog 129 lE:=bM.of (mode := .clean) tok BC mixed Tryz.func129 (by kernel_rfl) ⟨by kernel_rfl,by kernel_rfl⟩ (fun _=>Nat.le_of_ble_eq_true (by kernel_rfl)) (fun x r h=>Dl x.1 x.2 r h)
noncomputable def nD:=eN (dR (iI (eI .i64))) (fun x:(List Int)=>eB x) (fun r:(List Int) =>.clean (.sl false false r.length (ab (eI .i64) r)))
theorem jP (p0:(List Int)):nD none [.sl false false p0.length (ab (eI .i64) p0)]=(eB p0).map fun r:(List Int)=>(.clean (.sl false false r.length (ab (eI .i64) r)),none):=aJ _ _ _ (p0)
theorem LH (p0:(List Int)) (r:(List Int)) (hh:eB p0=some r):aP .clean tab aV FU Tryz.f163 none [.sl false false p0.length (ab (eI .i64) p0)]=some (.clean (.sl false false r.length (ab (eI .i64) r)),none):=by
 refine ax rfl Tryz.ntmps163 Tryz.results163 ?_
 unfold eB at hh
 try simp only[w,seval,-Int.reduceToNat]
 obtain⟨o4,ho4,hh⟩:=ae hh
 refine az (fun s t H e=>match s with|s3a=>t 0=.sl false false p0.length (ab (eI .i64) p0)∧t 3=.int .i64 s3a) (fun o x t H e=>match o with|s3ax=>x=.exit 0∧t 0=.sl false false p0.length (ab (eI .i64) p0)∧t 3=.int .i64 s3ax) ho4 ?_ ?_ ?_
 ·refine⟨?_,?_⟩
  all_goals first|rfl|(simp only[w,seval,-Int.reduceToNat]<;>rfl)
 ·rintro s3a t H e Za c hh
  simp only[j6]at hh
  try simp only[w,seval,-Int.reduceToNat,Za]
  refine sp bB hh (fun _ hh =>?_) (fun _ hh =>?_)
  ·obtain⟨x6,hx6,hh⟩:=ae hh
   have ax6:=bH (eI .i64) hx6
   simp only[bZ]at ax6
   try simp only[w,seval,-Int.reduceToNat,Za,ax6]
   refine sp ak hh (fun _ hh =>?_) (fun _ hh =>?_)
   ·cases hh
    try simp only[w,seval,-Int.reduceToNat,Za,ax6]
    refine jg ?_
    refine⟨?_,?_⟩
    all_goals first|rfl|(simp only[w,seval,-Int.reduceToNat,Za,ax6]<;>rfl)
   ·cases hh
    try simp only[w,seval,-Int.reduceToNat,Za,ax6]
    refine kX ?_
    refine⟨rfl,⟨?_,?_⟩⟩
    all_goals first|rfl|(simp only[w,seval,-Int.reduceToNat,Za,ax6]<;>rfl)
  ·cases hh
   try simp only[w,seval,-Int.reduceToNat,Za]
   refine kX ?_
   refine⟨rfl,⟨?_,?_⟩⟩
   all_goals first|rfl|(simp only[w,seval,-Int.reduceToNat,Za]<;>rfl)
 ·rintro x t H e hx
  obtain⟨s3ax,rfl⟩:∃z,z=o4:=⟨_,rfl⟩
  dsimp only at hx hh
  obtain⟨rfl,Zax⟩:=hx
  obtain⟨x8,hx8,hh⟩:=ae hh
  obtain⟨q9a,q9b,q9c,q9d,q9e⟩:=Cy (eI .i64) hx8
  simp only[bZ]at q9e
  cases hh
  try simp only[w,seval,-Int.reduceToNat,Zax,q9a,q9b,q9c,q9d,q9e]
theorem tf:bM Tryz.prog 163 nD:=bM.of (mode := .clean) tok bR.none mixed Tryz.func163 (by kernel_rfl) ⟨by kernel_rfl,by kernel_rfl⟩ (fun _=>Nat.le_of_ble_eq_true (by kernel_rfl)) (fun x r h=>LH x r h)
noncomputable def pT:=UT 3 (eI .i64) (Tn) (fun (l:(List Int)) (x:Unit)=>eB l)
theorem G7 (pre post:List D) (p0:(List Int)):pT (some (.buf 0 0 1 pre.length p0.length,⟨0,3,pre++(ab (eI .i64) p0++post),false,true,false⟩)) []=(eB p0).map fun r=>(.fresh 3 1 r.length (ab (eI .i64) r),none):=RJ _ _ _ _ pre post p0 ()
theorem Gy (pre post:List D) (p0:(List Int)) (r:(List Int)) (hh:eB p0=some r):aP (.fresh 3 1) tab aV FU Tryz.f163 (some (.buf 0 0 1 pre.length p0.length,⟨0,3,pre++(ab (eI .i64) p0++post),false,true,false⟩)) []=some (.fresh 3 1 r.length (ab (eI .i64) r),none):=by
 refine oa rfl Tryz.ntmps163 Tryz.results163 ?_
 unfold eB at hh
 try simp only[w,seval,-Int.reduceToNat]
 obtain⟨o4,ho4,hh⟩:=ae hh
 refine az (fun s t H e=>match s with|s3a=>∃v0a:Nat,t 0=.buf 0 v0a 1 pre.length (p0).length∧t 3=.int .i64 s3a∧H 0=some ⟨v0a,3,pre++(ab (eI .i64) p0++post),false,true,false⟩) (fun o x t H e=>match o with|s3ax=>x=.exit 0∧∃v0ax:Nat,t 0=.buf 0 v0ax 1 pre.length (p0).length∧t 3=.int .i64 s3ax∧H 0=some ⟨v0ax,3,pre++(ab (eI .i64) p0++post),false,true,false⟩) ho4 ?_ ?_ ?_
 ·refine⟨0,?_,?_,?_⟩
  all_goals first|rfl|(simp only[w,seval,-Int.reduceToNat]<;>rfl)
 ·rintro s3a t H e ⟨v0a,Za⟩ c hh
  simp only[j6]at hh
  try simp only[w,seval,-Int.reduceToNat,Za]
  refine sp bB hh (fun _ hh =>?_) (fun _ hh =>?_)
  ·obtain⟨x6,hx6,hh⟩:=ae hh
   have ax6:=sV (pre:=pre) (post:=post) (eI .i64) hx6
   simp only[bZ]at ax6
   try simp only[w,seval,-Int.reduceToNat,Za,ax6]
   refine sp ak hh (fun _ hh =>?_) (fun _ hh =>?_)
   ·cases hh
    try simp only[w,seval,-Int.reduceToNat,Za,ax6]
    refine jg ?_
    refine⟨v0a,?_,?_,?_⟩
    all_goals first|rfl|(simp only[w,seval,-Int.reduceToNat,Za,ax6]<;>rfl)
   ·cases hh
    try simp only[w,seval,-Int.reduceToNat,Za,ax6]
    refine kX ?_
    refine⟨rfl,⟨v0a,?_,?_,?_⟩⟩
    all_goals first|rfl|(simp only[w,seval,-Int.reduceToNat,Za,ax6]<;>rfl)
  ·cases hh
   try simp only[w,seval,-Int.reduceToNat,Za]
   refine kX ?_
   refine⟨rfl,⟨v0a,?_,?_,?_⟩⟩
   all_goals first|rfl|(simp only[w,seval,-Int.reduceToNat,Za]<;>rfl)
 ·rintro x t H e hx
  obtain⟨s3ax,rfl⟩:∃z,z=o4:=⟨_,rfl⟩
  dsimp only at hx hh
  obtain⟨rfl,⟨v0ax,Zax⟩⟩:=hx
  obtain⟨x8,hx8,hh⟩:=ae hh
  obtain⟨q9a,q9b,q9c,q9d,q9e⟩:=Cy (eI .i64) hx8
  simp only[bZ]at q9e
  obtain⟨q9f,q9g⟩:=T9 (pre:=pre) (post:=post) (eI .i64) hx8
  simp only[bZ]at q9f q9g
  cases hh
  try simp only[w,seval,-Int.reduceToNat,Zax,q9a,q9b,q9c,q9f,q9g,q9d]
theorem Du:bM Tryz.prog 163 pT:=bM.Wx tok bR.none mixed Tryz.func163 (by kernel_rfl) ⟨by kernel_rfl,by kernel_rfl⟩ (fun _=>Nat.le_of_ble_eq_true (by kernel_rfl)) (fun pre post l x r h=>Gy pre post l r h)
noncomputable def sc:=eN (dU (iI (eI .i64)) (dR (aI .i64))) (fun x:(List Int)×Int=>j5 x.1 x.2) (fun r:(List Int)×Int =>.clean (.tup [.sl false false r.1.length (ab (eI .i64) r.1),.int .i64 r.2]))
theorem y8 (p0:(List Int)) (p1:Int):sc none [.sl false false p0.length (ab (eI .i64) p0),.int .i64 p1]=(j5 p0 p1).map fun r:(List Int)×Int=>(.clean (.tup [.sl false false r.1.length (ab (eI .i64) r.1),.int .i64 r.2]),none):=aJ _ _ _ (p0,p1)
noncomputable def ox:Env:=(Am.ext aV 163 false nD)
theorem Gk:bR Tryz.prog ox:=(bR.none.add tf false)
theorem gP:type_of% (ai @w<|ai @jP<|@ox.eq_1):=⟨@w,@jP,@ox.eq_1⟩
theorem Jw (p0:(List Int)) (p1:Int) (r:(List Int)×Int) (hh:j5 p0 p1=some r):aP .clean tab ox FU Tryz.f162 none [.sl false false p0.length (ab (eI .i64) p0),.int .i64 p1]=some (.clean (.tup [.sl false false r.1.length (ab (eI .i64) r.1),.int .i64 r.2]),none):=by
 refine ax rfl Tryz.ntmps162 Tryz.results162 ?_
 unfold j5 at hh
 obtain⟨x1,hx1,hh⟩:=ae hh
 obtain⟨q2a,q2b,q2c,q2d,q2e⟩:=mk_one (eI .i64) hx1
 simp only[bZ]at q2d
 try simp only[gP,seval,-Int.reduceToNat,q2a,q2b,q2c,q2d,q2e]
 obtain⟨o13,ho13,hh⟩:=ae hh
 refine az (fun s t H e=>match s with|(s7a,s8a,l6a)=>∃v6a:Nat,t 0=.sl false false p0.length (ab (eI .i64) p0)∧t 1=.int .i64 p1∧t 6=.buf 6 v6a 1 0 (l6a).length∧t 7=.int .i64 s7a∧t 8=.int .i64 s8a∧H 6=some ⟨v6a,3,ab (eI .i64) l6a,false,true,false⟩) (fun o x t H e=>match o with|(s7ax,l6ax)=>x=.exit 0∧∃v6ax:Nat,t 6=.buf 6 v6ax 1 0 (l6ax).length∧t 7=.int .i64 s7ax∧H 6=some ⟨v6ax,3,ab (eI .i64) l6ax,false,true,false⟩) ho13 ?_ ?_ ?_
 ·refine⟨1,?_,?_,?_,?_,?_,?_⟩
  all_goals first|rfl|(simp only[gP,seval,-Int.reduceToNat,q2a,q2b,q2c,q2d,q2e]<;>rfl)
 ·rintro⟨s7a,s8a,l6a⟩ t H e ⟨v6a,Za⟩ c hh
  simp only[mL]at hh
  try simp only[gP,seval,-Int.reduceToNat,q2a,q2b,q2c,q2d,q2e,Za]
  refine sp ak hh (fun _ hh =>?_) (fun _ hh =>?_)
  ·obtain⟨x15,hx15,hh⟩:=ae hh
   have q16:=Ae hx15
   obtain⟨x17,hx17,hh⟩:=ae hh
   have ax17:=bH (eI .i64) hx17
   simp only[bZ]at ax17
   obtain⟨x18,hx18,hh⟩:=ae hh
   have q19:=qy hx18
   obtain⟨x20,hx20,hh⟩:=ae hh
   have ax20:=bH (eI .i64) hx20
   simp only[bZ]at ax20
   have p21:=jJ (eI .i64) (x':=x18) (fo:=0) (cs:=[.int .i64 x18]) hx20 rfl (Nat.le_of_ble_eq_true rfl)
   simp only[bZ,Nat.add_zero]at p21
   have up21:=p21
   simp only[putCells,List.length_cons,List.length_nil,Nat.zero_add,Nat.reduceAdd]at up21
   obtain⟨x22,hx22,hh⟩:=ae hh
   have q23:=qP hx22
   cases hh
   try simp only[gP,seval,-Int.reduceToNat,q2a,q2b,q2c,q2d,q2e,Za,q16,ax17,q19,ax20,p21,up21,q23]
   refine jg ?_
   refine⟨v6a,?_,?_,?_,?_,?_,?_⟩
   all_goals first|rfl|(simp only[gP,seval,-Int.reduceToNat,q2a,q2b,q2c,q2d,q2e,Za,q16,ax17,q19,ax20,p21,up21,q23]<;>rfl)
  ·cases hh
   try simp only[gP,seval,-Int.reduceToNat,q2a,q2b,q2c,q2d,q2e,Za]
   refine kX ?_
   refine⟨rfl,⟨v6a,?_,?_,?_⟩⟩
   all_goals first|rfl|(simp only[gP,seval,-Int.reduceToNat,q2a,q2b,q2c,q2d,q2e,Za]<;>rfl)
 ·rintro x t H e hx
  rcases o13 with⟨s7ax,l6ax⟩
  dsimp only at hx hh
  obtain⟨rfl,⟨v6ax,Zax⟩⟩:=hx
  obtain⟨r24,hr24,hh⟩:=ae hh
  cases hh
  try simp only[gP,seval,-Int.reduceToNat,q2a,q2b,q2c,q2d,q2e,Zax,hr24]
theorem GU:bM Tryz.prog 162 sc:=bM.of (mode := .clean) tok Gk mixed Tryz.func162 (by kernel_rfl) ⟨by kernel_rfl,by kernel_rfl⟩ (fun _=>Nat.le_of_ble_eq_true (by kernel_rfl)) (fun x r h=>Jw x.1 x.2 r h)
noncomputable def tE:=eN (dU (iI (eI .i64)) (dR (iI (eI .i64)))) (fun x:(List Int)×(List Int)=>mK x.1 x.2) (fun r:(List Int) =>.fresh 3 1 r.length (ab (eI .i64) r))
theorem ny (p0:(List Int)) (p1:(List Int)):tE none [.sl false false p0.length (ab (eI .i64) p0),.sl false false p1.length (ab (eI .i64) p1)]=(mK p0 p1).map fun r:(List Int)=>(.fresh 3 1 r.length (ab (eI .i64) r),none):=aJ _ _ _ (p0,p1)
noncomputable def tU:Env:=(Am.ext aV 163 true pT)
theorem Lm:bR Tryz.prog tU:=(bR.none.add Du true)
theorem eG:type_of% (ai @w<|@tU.eq_1):=⟨@w,@tU.eq_1⟩
theorem Pp (p0:(List Int)) (p1:(List Int)) (r:(List Int)) (hh:mK p0 p1=some r):aP (.fresh 3 1) tab tU FU Tryz.f164 none [.sl false false p0.length (ab (eI .i64) p0),.sl false false p1.length (ab (eI .i64) p1)]=some (.fresh 3 1 r.length (ab (eI .i64) r),none):=by
 refine ax rfl Tryz.ntmps164 Tryz.results164 ?_
 unfold mK at hh
 obtain⟨x1,hx1,hh⟩:=ae hh
 obtain⟨q2a,q2b,q2c,q2d,q2e⟩:=mk_one (eI .i64) hx1
 simp only[bZ]at q2d
 try simp only[eG,seval,-Int.reduceToNat,q2a,q2b,q2c,q2d,q2e]
 obtain⟨o20,ho20,hh⟩:=ae hh
 refine az (fun s t H e=>match s with|(s20a,l5a)=>∃v5a:Nat,t 1=.sl false false p1.length (ab (eI .i64) p1)∧t 5=.buf 5 v5a 1 0 (l5a).length∧t 18=.sl false false p0.length (ab (eI .i64) p0)∧t 19=.int .i64 (p0.length:Int)∧t 20=.int .i64 s20a∧H 5=some ⟨v5a,3,ab (eI .i64) l5a,false,true,false⟩) (fun o x t H e=>match o with|l5ax=>x=.exit 0∧∃v5ax:Nat,t 5=.buf 5 v5ax 1 0 (l5ax).length∧H 5=some ⟨v5ax,3,ab (eI .i64) l5ax,false,true,false⟩) ho20 ?_ ?_ ?_
 ·refine⟨1,?_,?_,?_,?_,?_,?_⟩
  all_goals first|rfl|(simp only[eG,seval,-Int.reduceToNat,q2a,q2b,q2c,q2d,q2e]<;>rfl)
 ·rintro⟨s20a,l5a⟩ t H e ⟨v5a,Za⟩ c hh
  simp only[qu]at hh
  try simp only[eG,seval,-Int.reduceToNat,q2a,q2b,q2c,q2d,q2e,Za]
  refine sp ak hh (fun _ hh =>?_) (fun _ hh =>?_)
  ·obtain⟨x22,hx22,hh⟩:=ae hh
   have ax22:=bH (eI .i64) hx22
   simp only[bZ]at ax22
   try simp only[eG,seval,-Int.reduceToNat,q2a,q2b,q2c,q2d,q2e,Za,ax22]
   obtain⟨o29,ho29,hh⟩:=ae hh
   refine az (fun s t H e=>match s with|(s8c,s27c,l5c)=>∃v5c:Nat,t 1=.sl false false p1.length (ab (eI .i64) p1)∧t 5=.buf 5 v5c 1 0 (l5c).length∧t 6=.int .i64 s20a∧t 7=.int .i64 x22∧t 8=.int .i64 s8c∧t 18=.sl false false p0.length (ab (eI .i64) p0)∧t 19=.int .i64 (p0.length:Int)∧t 20=.int .i64 s20a∧t 25=.sl false false p1.length (ab (eI .i64) p1)∧t 26=.int .i64 (p1.length:Int)∧t 27=.int .i64 s27c∧H 5=some ⟨v5c,3,ab (eI .i64) l5c,false,true,false⟩) (fun o x t H e=>match o with|(s8cx,l5cx)=>x=.exit 2∧∃v5cx:Nat,t 1=.sl false false p1.length (ab (eI .i64) p1)∧t 5=.buf 5 v5cx 1 0 (l5cx).length∧t 6=.int .i64 s20a∧t 8=.int .i64 s8cx∧t 18=.sl false false p0.length (ab (eI .i64) p0)∧t 19=.int .i64 (p0.length:Int)∧t 20=.int .i64 s20a∧H 5=some ⟨v5cx,3,ab (eI .i64) l5cx,false,true,false⟩) ho29 ?_ ?_ ?_
   ·refine⟨v5a,?_,?_,?_,?_,?_,?_,?_,?_,?_,?_,?_,?_⟩
    all_goals first|rfl|(simp only[eG,seval,-Int.reduceToNat,q2a,q2b,q2c,q2d,q2e,Za,ax22]<;>rfl)
   ·rintro⟨s8c,s27c,l5c⟩ t H e ⟨v5c,Zc⟩ c hh
    simp only[qv]at hh
    try simp only[eG,seval,-Int.reduceToNat,q2a,q2b,q2c,q2d,q2e,ax22,Zc]
    refine sp ak hh (fun _ hh =>?_) (fun _ hh =>?_)
    ·obtain⟨x31,hx31,hh⟩:=ae hh
     have ax31:=bH (eI .i64) hx31
     simp only[bZ]at ax31
     obtain⟨x32,hx32,hh⟩:=ae hh
     have ax32:=bH (eI .i64) hx32
     simp only[bZ]at ax32
     obtain⟨x33,hx33,hh⟩:=ae hh
     have q34:=oT hx33
     have ax32:=bH (eI .i64) hx32
     simp only[bZ]at ax32
     have p35:=jJ (eI .i64) (x':=mv .and .i64 (IntKind.i64.wrap ((IntKind.i64.wrap (x32+(IntKind.i64.wrap (x22*x31))))+s8c)) 1048575) (fo:=0) (cs:=[.int .i64 (mv .and .i64 (IntKind.i64.wrap ((IntKind.i64.wrap (x32+(IntKind.i64.wrap (x22*x31))))+s8c)) 1048575)]) hx32 rfl (Nat.le_of_ble_eq_true rfl)
     simp only[bZ,Nat.add_zero]at p35
     have up35:=p35
     simp only[putCells,List.length_cons,List.length_nil,Nat.zero_add,Nat.reduceAdd]at up35
     cases hh
     try simp only[eG,seval,-Int.reduceToNat,q2a,q2b,q2c,q2d,q2e,ax22,Zc,ax31,ax32,q34,ax32,p35,up35]
     refine jg ?_
     refine⟨v5c,?_,?_,?_,?_,?_,?_,?_,?_,?_,?_,?_,?_⟩
     all_goals first|rfl|(simp only[eG,seval,-Int.reduceToNat,q2a,q2b,q2c,q2d,q2e,ax22,Zc,ax31,ax32,q34,ax32,p35,up35]<;>rfl)
    ·cases hh
     try simp only[eG,seval,-Int.reduceToNat,q2a,q2b,q2c,q2d,q2e,ax22,Zc]
     refine kX ?_
     refine⟨rfl,⟨v5c,?_,?_,?_,?_,?_,?_,?_,?_⟩⟩
     all_goals first|rfl|(simp only[eG,seval,-Int.reduceToNat,q2a,q2b,q2c,q2d,q2e,ax22,Zc]<;>rfl)
   ·rintro x t H e hx
    rcases o29 with⟨s8cx,l5cx⟩
    dsimp only at hx hh
    obtain⟨rfl,⟨v5cx,Zcx⟩⟩:=hx
    obtain⟨x36,hx36,hh⟩:=ae hh
    have ax36:=bH (eI .i64) hx36
    simp only[bZ]at ax36
    have ax36:=bH (eI .i64) hx36
    simp only[bZ]at ax36
    have p37:=jJ (eI .i64) (x':=IntKind.i64.wrap (x36+s8cx)) (fo:=0) (cs:=[.int .i64 (IntKind.i64.wrap (x36+s8cx))]) hx36 rfl (Nat.le_of_ble_eq_true rfl)
    simp only[bZ,Nat.add_zero]at p37
    have up37:=p37
    simp only[putCells,List.length_cons,List.length_nil,Nat.zero_add,Nat.reduceAdd]at up37
    cases hh
    try simp only[eG,seval,-Int.reduceToNat,q2a,q2b,q2c,q2d,q2e,ax22,Zcx,ax36,ax36,p37,up37]
    refine jg ?_
    refine⟨v5cx,?_,?_,?_,?_,?_,?_⟩
    all_goals first|rfl|(simp only[eG,seval,-Int.reduceToNat,q2a,q2b,q2c,q2d,q2e,ax22,Zcx,ax36,ax36,p37,up37]<;>rfl)
  ·cases hh
   try simp only[eG,seval,-Int.reduceToNat,q2a,q2b,q2c,q2d,q2e,Za]
   refine kX ?_
   refine⟨rfl,⟨v5a,?_,?_⟩⟩
   all_goals first|rfl|(simp only[eG,seval,-Int.reduceToNat,q2a,q2b,q2c,q2d,q2e,Za]<;>rfl)
 ·rintro x t H e hx
  obtain⟨l5ax,rfl⟩:∃z,z=o20:=⟨_,rfl⟩
  dsimp only at hx hh
  obtain⟨rfl,⟨v5ax,Zax⟩⟩:=hx
  have i38:=G7 [] [] l5ax
  try simp only[List.nil_append,List.append_nil,List.length_nil,aN,List.length_set,bZ]at i38
  obtain⟨r39,hr39,hh⟩:=ae hh
  cases hh
  try simp only[eG,seval,-Int.reduceToNat,q2a,q2b,q2c,q2d,q2e,Zax,i38,hr39]
theorem B6:bM Tryz.prog 164 tE:=bM.of (mode:=(.fresh 3 1)) tok Lm mixed Tryz.func164 (by kernel_rfl) ⟨by kernel_rfl,by kernel_rfl⟩ (fun _=>Nat.le_of_ble_eq_true (by kernel_rfl)) (fun x r h=>Pp x.1 x.2 r h)
noncomputable def nC:=Qb 3 (eI .i64) (dU (iI (eI .i64)) (dR (aI .i64))) (fun (l:(List Int)) (x:(List Int)×Int)=>eW l x.1 x.2) (fun r:Int =>.clean (.int .i64 r))
theorem Ce (pre post:List D) (p0:(List Int)) (p1:(List Int)) (p2:Int):nC (some (.buf 0 0 1 pre.length p0.length,⟨0,3,pre++(ab (eI .i64) p0++post),false,true,false⟩)) [.sl false false p1.length (ab (eI .i64) p1),.int .i64 p2]=(eW p0 p1 p2).map fun r=>(.clean (.int .i64 r.2),some ⟨0,3,pre++(ab (eI .i64) r.1++post),false,true,false⟩):=B0 _ _ _ _ _ pre post p0 (p1,p2)
theorem BU (pre post:List D) (p0:(List Int)) (p1:(List Int)) (p2:Int) (r:(List Int)×(Int)) (hh:eW p0 p1 p2=some r):aP .clean tab aV FU Tryz.f165 (some (.buf 0 0 1 pre.length p0.length,⟨0,3,pre++(ab (eI .i64) p0++post),false,true,false⟩)) [.sl false false p1.length (ab (eI .i64) p1),.int .i64 p2]=some (.clean (.int .i64 r.2),some ⟨0,3,pre++(ab (eI .i64) r.1++post),false,true,false⟩):=by
 refine oa rfl Tryz.ntmps165 Tryz.results165 ?_
 unfold eW at hh
 obtain⟨rw,hrw,hh⟩:=ae hh
 split at hh
 rotate_left
 ·cases hh
 cases hh
 rename_i hlen
 replace hh:=hrw
 unfold nI at hh
 try simp only[w,seval,-Int.reduceToNat]
 obtain⟨o9,ho9,hh⟩:=ae hh
 refine az (fun s t H e=>match s with|(s7a,s14a,l0a)=>t 0=.buf 0 0 1 pre.length (l0a).length∧t 1=.sl false false p1.length (ab (eI .i64) p1)∧t 2=.int .i64 p2∧t 7=.int .i64 s7a∧t 13=.int .i64 ((p0).length:Int)∧t 14=.int .i64 s14a∧H 0=some ⟨0,3,pre++(ab (eI .i64) l0a++post),false,true,false⟩) (fun o x t H e=>match o with|(s7ax,l0ax)=>x=.exit 0∧t 0=.buf 0 0 1 pre.length (l0ax).length∧t 1=.sl false false p1.length (ab (eI .i64) p1)∧t 2=.int .i64 p2∧t 7=.int .i64 s7ax∧H 0=some ⟨0,3,pre++(ab (eI .i64) l0ax++post),false,true,false⟩) ho9 ?_ ?_ ?_
 ·refine⟨?_,?_,?_,?_,?_,?_,?_⟩
  all_goals first|rfl|(simp only[w,seval,-Int.reduceToNat]<;>rfl)
 ·rintro⟨s7a,s14a,l0a⟩ t H e Za c hh
  simp only[jD]at hh
  try simp only[w,seval,-Int.reduceToNat,Za]
  refine sp ak hh (fun _ hh =>?_) (fun _ hh =>?_)
  ·obtain⟨x11,hx11,hh⟩:=ae hh
   have ax11:=sV (pre:=pre) (post:=post) (eI .i64) hx11
   simp only[bZ]at ax11
   try simp only[w,seval,-Int.reduceToNat,Za,ax11]
   obtain⟨o12,ho12,hh⟩:=ae hh
   refine mm 0 (fun s t H e=>match s with|s9j3=>t 0=.buf 0 0 1 pre.length (l0a).length∧t 1=.sl false false p1.length (ab (eI .i64) p1)∧t 2=.int .i64 p2∧t 8=.int .i64 s14a∧t 9=.int .i64 s9j3∧t 13=.int .i64 ((p0).length:Int)∧t 14=.int .i64 s14a∧H 0=some ⟨0,3,pre++(ab (eI .i64) l0a++post),false,true,false⟩) (fun s=>s=o12) ?_ ?_
   ·rintro s9j3 t H e Zj3 rfl
    try dsimp only at hh
    have ax11:=sV (pre:=pre) (post:=post) (eI .i64) hx11
    simp only[bZ]at ax11
    have p13:=wT (pre:=pre) (post:=post) (eI .i64) (y':=mv .and .i64 s9j3 1048575) hx11
    simp only[bZ]at p13
    have up13:=p13
    simp only[putCells,List.length_cons,List.length_nil,Nat.zero_add,Nat.reduceAdd]at up13
    obtain⟨x14,hx14,hh⟩:=ae hh
    have q15:=oT hx14
    cases hh
    try simp only[w,seval,-Int.reduceToNat,ax11,Zj3,ax11,p13,up13,q15]
    refine jg ?_
    refine⟨?_,?_,?_,?_,?_,?_,?_⟩
    all_goals first|rfl|(simp only[w,seval,-Int.reduceToNat,ax11,Zj3,ax11,p13,up13,q15]<;>rfl)
   ·clear hh
    have hh:=ho12
    try simp only[w,seval,-Int.reduceToNat,Za,ax11]
    refine sp ak hh (fun _ hh =>?_) (fun _ hh =>?_)
    ·obtain⟨x17,hx17,hh⟩:=ae hh
     have ax17:=bH (eI .i64) hx17
     simp only[bZ]at ax17
     cases hh
     try simp only[w,seval,-Int.reduceToNat,Za,ax11,ax17]
     rw[an]
     refine⟨_,rfl,?_⟩
     refine⟨?_,?_,?_,?_,?_,?_,?_,?_⟩
     all_goals first|rfl|(simp only[w,seval,-Int.reduceToNat,Za,ax11,ax17]<;>rfl)
    ·cases hh
     try simp only[w,seval,-Int.reduceToNat,Za,ax11]
     rw[an]
     refine⟨_,rfl,?_⟩
     refine⟨?_,?_,?_,?_,?_,?_,?_,?_⟩
     all_goals first|rfl|(simp only[w,seval,-Int.reduceToNat,Za,ax11]<;>rfl)
  ·cases hh
   try simp only[w,seval,-Int.reduceToNat,Za]
   refine kX ?_
   refine⟨rfl,⟨?_,?_,?_,?_,?_⟩⟩
   all_goals first|rfl|(simp only[w,seval,-Int.reduceToNat,Za]<;>rfl)
 ·rintro x t H e hx
  rcases o9 with⟨s7ax,l0ax⟩
  dsimp only at hx hh
  obtain⟨rfl,Zax⟩:=hx
  try simp only[w,seval,-Int.reduceToNat,Zax]
  refine sp ak hh (fun _ hh =>?_) (fun _ hh =>?_)
  ·cases hh
   try simp only[w,seval,-Int.reduceToNat,Zax]
  ·try simp only[w,seval,-Int.reduceToNat,Zax]
   obtain⟨o27,ho27,hh⟩:=ae hh
   refine az (fun s t H e=>match s with|(s10d,s49d,l0d)=>t 0=.buf 0 0 1 pre.length (l0d).length∧t 1=.sl false false p1.length (ab (eI .i64) p1)∧t 2=.int .i64 p2∧t 10=.int .i64 s10d∧t 48=.int .i64 ((l0ax).length:Int)∧t 49=.int .i64 s49d∧H 0=some ⟨0,3,pre++(ab (eI .i64) l0d++post),false,true,false⟩) (fun o x t H e=>match o with|l0dx=>x=.exit 2∧t 0=.buf 0 0 1 pre.length (l0dx).length∧t 2=.int .i64 p2∧H 0=some ⟨0,3,pre++(ab (eI .i64) l0dx++post),false,true,false⟩) ho27 ?_ ?_ ?_
   ·refine⟨?_,?_,?_,?_,?_,?_,?_⟩
    all_goals first|rfl|(simp only[w,seval,-Int.reduceToNat,Zax]<;>rfl)
   ·rintro⟨s10d,s49d,l0d⟩ t H e Zd c hh
    simp only[jE]at hh
    try simp only[w,seval,-Int.reduceToNat,Zd]
    refine sp ak hh (fun _ hh =>?_) (fun _ hh =>?_)
    ·obtain⟨x29,hx29,hh⟩:=ae hh
     have ax29:=sV (pre:=pre) (post:=post) (eI .i64) hx29
     simp only[bZ]at ax29
     try simp only[w,seval,-Int.reduceToNat,Zd,ax29]
     obtain⟨o30,ho30,hh⟩:=ae hh
     refine mm 0 (fun s t H e=>match s with|s10j6=>t 0=.buf 0 0 1 pre.length (l0d).length∧t 1=.sl false false p1.length (ab (eI .i64) p1)∧t 2=.int .i64 p2∧t 10=.int .i64 s10j6∧t 11=.int .i64 s49d∧t 48=.int .i64 ((l0ax).length:Int)∧t 49=.int .i64 s49d∧H 0=some ⟨0,3,pre++(ab (eI .i64) l0d++post),false,true,false⟩) (fun s=>s=o30) ?_ ?_
     ·rintro s10j6 t H e Zj6 rfl
      try dsimp only at hh
      have ax29:=sV (pre:=pre) (post:=post) (eI .i64) hx29
      simp only[bZ]at ax29
      have p31:=wT (pre:=pre) (post:=post) (eI .i64) (y':=mv .and .i64 s10j6 1048575) hx29
      simp only[bZ]at p31
      have up31:=p31
      simp only[putCells,List.length_cons,List.length_nil,Nat.zero_add,Nat.reduceAdd]at up31
      obtain⟨x32,hx32,hh⟩:=ae hh
      have q33:=oT hx32
      cases hh
      try simp only[w,seval,-Int.reduceToNat,ax29,Zj6,ax29,p31,up31,q33]
      refine jg ?_
      refine⟨?_,?_,?_,?_,?_,?_,?_⟩
      all_goals first|rfl|(simp only[w,seval,-Int.reduceToNat,ax29,Zj6,ax29,p31,up31,q33]<;>rfl)
     ·clear hh
      have hh:=ho30
      try simp only[w,seval,-Int.reduceToNat,Zd,ax29]
      refine sp ak hh (fun _ hh =>?_) (fun _ hh =>?_)
      ·obtain⟨x35,hx35,hh⟩:=ae hh
       have ax35:=bH (eI .i64) hx35
       simp only[bZ]at ax35
       cases hh
       try simp only[w,seval,-Int.reduceToNat,Zd,ax29,ax35]
       rw[an]
       refine⟨_,rfl,?_⟩
       refine⟨?_,?_,?_,?_,?_,?_,?_,?_⟩
       all_goals first|rfl|(simp only[w,seval,-Int.reduceToNat,Zd,ax29,ax35]<;>rfl)
      ·cases hh
       try simp only[w,seval,-Int.reduceToNat,Zd,ax29]
       rw[an]
       refine⟨_,rfl,?_⟩
       refine⟨?_,?_,?_,?_,?_,?_,?_,?_⟩
       all_goals first|rfl|(simp only[w,seval,-Int.reduceToNat,Zd,ax29]<;>rfl)
    ·cases hh
     try simp only[w,seval,-Int.reduceToNat,Zd]
     refine kX ?_
     refine⟨rfl,⟨?_,?_,?_⟩⟩
     all_goals first|rfl|(simp only[w,seval,-Int.reduceToNat,Zd]<;>rfl)
   ·rintro x t H e hx
    obtain⟨l0dx,rfl⟩:∃z,z=o27:=⟨_,rfl⟩
    dsimp only at hx hh
    obtain⟨rfl,Zdx⟩:=hx
    cases hh
    try simp only[w,seval,-Int.reduceToNat,Zdx]
theorem zN:bM Tryz.prog 165 nC:=bM.NQ (mode := .clean) tok bR.none mixed Tryz.func165 (by kernel_rfl) ⟨by kernel_rfl,by kernel_rfl⟩ (fun _=>Nat.le_of_ble_eq_true (by kernel_rfl)) (fun pre post l x l' r h=>BU pre post l x.1 x.2 (l',r) h)
noncomputable def xq:=eN (dU (iI (eI .i64)) (dR (iI (eI .i64)))) (fun x:(List Int)×(List Int)=>qo x.1 x.2) (fun r:(List Int)×(List Int) =>.clean (.tup [.sl false false r.1.length (ab (eI .i64) r.1),.sl false false r.2.length (ab (eI .i64) r.2)]))
theorem Fi (p0:(List Int)) (p1:(List Int)):xq none [.sl false false p0.length (ab (eI .i64) p0),.sl false false p1.length (ab (eI .i64) p1)]=(qo p0 p1).map fun r:(List Int)×(List Int)=>(.clean (.tup [.sl false false r.1.length (ab (eI .i64) r.1),.sl false false r.2.length (ab (eI .i64) r.2)]),none):=aJ _ _ _ (p0,p1)
noncomputable def tT:Env:=(Am.ext (Am.ext (Am.ext (Am.ext (Am.ext (Am.ext aV 65 false eO) 129 false lE) 162 false sc) 163 false nD) 164 false tE) 165 true nC)
theorem Ll:bR Tryz.prog tT:=((((((bR.none.add gW false).add te false).add GU false).add tf false).add B6 false).add zN true)
theorem aS:type_of% (ai @w<|ai @dy<|ai @lT<|ai @y8<|ai @jP<|ai @ny<|@tT.eq_1):=⟨@w,@dy,@lT,@y8,@jP,@ny,@tT.eq_1⟩
end Go.Proofs.YtpkahnkoecbndaaGreatDoor.Am
