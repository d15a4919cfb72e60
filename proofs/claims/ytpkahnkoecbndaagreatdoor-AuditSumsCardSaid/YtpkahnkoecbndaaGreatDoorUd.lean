/- Part of a proof, made small by a program (wip/mini.py). -/
import Derived.Test.YtpkahnkoecbndaaGreatDoorUc
namespace Go.Proofs.YtpkahnkoecbndaaGreatDoor.Am
open Go.RowKit Go.Proofs.YtpkahnkoecbndaaGreatDoor.P Go.Shelf
set_option linter.unusedSimpArgs false
set_option linter.unusedVariables false
set_option maxHeartbeats 4000000 in
set_option maxRecDepth 100000 in
theorem Ye (b o c:Nat) (l:List Int) (w:World) (hb:b<w.heap.size) (hc:∀j,j<l.length→w.cell? ⟨b,o+j,none⟩=some (.int .i64 (l.getD j 0))) (hall:∀x∈l,-9223372036854775808≤x∧x≤9223372036854775807) (hreach:l.length*8≤140737488351232) (hsize:(ng l).length≤140737488355328)
  (ht:∀b,se=some b→∃ty fr,w.heap[b]? = some (.cells mZ ty fr)) (htl:∀b,se=some b→b<w.heap.size) :
  Calls Tryz.prog 93 #[.slice (some ⟨b,o,none⟩) l.length c,.func (.func 94) #[] #[]] w fun e w'=>e=.returned (.string ⟨(ng l).toArray⟩)∧Below w.heap.size w w':=by
 have htk:∀w',Below w.heap.size w w'→∀b,se=some b→∃ty fr,w'.heap[b]? = some (.cells mZ ty fr):=fun w' hbw b hb=>by
  obtain⟨ty,fr,h⟩:=ht b hb
  exact⟨ty,fr,(hbw.block b (htl b hb)).trans h⟩
 have hn0 : -9223372036854775808≤(l.length:Int):=by omega
 have hn1:(l.length:Int)≤9223372036854775807:=by omega
 have hB0:Below w.heap.size w (w.alloc (.cells #[.pointer none,.slice none 0 0] 150)):=(Below.refl _ w).alloc (Nat.le_refl _) _
 have hsz:=wS l.length hn0 hn1
 have e1:CG l.length++⟨#[91]⟩=⟨(Lib.itoa l.length++[91]).toArray⟩:=Bv (Lib.itoa l.length) [91]
 have hnl:(ng l).length=(Lib.itoa l.length).length+1+(iZ l).length+1:=by simp[ng];omega
 go_enter Tryz.func93,Tryz.ntmps93
 have hI0:Lib.IsBuilder 150 5 w.heap.size w.heap.size (Lib.byteCells []) (w.alloc (.cells #[.pointer none,.slice none 0 0] 150)):=O3 w
 go_wp2_with (first
  | (go_at_call 121;refine (Ta l.length _ hn0 hn1 (htk _ hB0)).mono ?_;rintro e w1 ⟨rfl,hb1⟩;have hI1:=F2 hI0 hb1;have hz1:w.heap.size≤w1.heap.size:=Nat.le_trans hB0.size hb1.size)
  | (go_at_call 120;refine (N5 w.heap.size w.heap.size [] (Lib.itoa l.length++[91]) _ hI1 (by simp only[List.length_nil,List.length_append,List.length_cons];omega) hz1).mono ?_;rintro e w2 ⟨v2,rfl,hB2,hb2⟩))
 have hb20:Below w.heap.size w w2:=(hB0.trans (hb1.mono hB0.size)).trans hb2
 clear hI1 hI0 hB0 hb1 hb2
 go_loopw [15] (fun i wr=>∃k:Nat,k≤l.length∧i=.int .i64 k∧Lib.BuilderAt 150 5 w.heap.size w.heap.size (.pointer (some ⟨w.heap.size,0,none⟩)) (Lib.byteCells ((Lib.itoa l.length++[91])++iZ (l.take k))) wr∧Below w.heap.size w wr)
  (fun i _=>l.length-(intOf i).toNat)
 case atStart=>exact⟨0,Nat.zero_le _,rfl,by simpa [iZ] using hB2,hb20⟩
 case round =>
  obtain⟨k,hk,rfl,hBk,hbk⟩:=hrel
  have hcx:k<l.length→wr.cell? ⟨b,o+k,none⟩=some (.int .i64 (l.getD k 0)):=fun h=>(hbk.cell (p:=⟨b,o+k,none⟩) hb).trans (hc k h)
  by_cases hlt:k<l.length
  ·have hcx':=hcx hlt
   have hx:=hall (l.getD k 0) (by rw[List.getD_eq_getElem?_getD,List.getElem?_eq_getElem hlt];exact List.getElem_mem hlt)
   have hnk:=Vt l (k+1)
   rw[GM l hlt,List.length_append]at hnk
   have hnn:=GM l hlt
   generalize l.getD k 0=x at *
   go_wp2_with (first
    | (go_at_call 94;refine (VW x _ hx.1 hx.2 (htk _ hbk)).mono ?_;rintro e w3 ⟨rfl,hb3⟩;have hI3:=pW hBk hb3;have hz3:w.heap.size≤w3.heap.size:=Nat.le_trans hbk.size hb3.size)
    | (go_at_call 120;refine (N5 w.heap.size w.heap.size ((Lib.itoa l.length++[91])++iZ (l.take k)) (Lib.itoa x++[59]) _ (.inr hI3) (by simp only[List.length_append,List.length_cons,List.length_nil]at *;omega) hz3).mono ?_;rintro e w4 ⟨v4,rfl,hB4,hb4⟩))
   go_roundw
   case rel=>exact⟨k+1,by omega,by go_num,by rw[hnn,← List.append_assoc];exact hB4,(hbk.trans (hb3.mono hbk.size)).trans hb4⟩
   case measure=>simp[intOf];omega
  ·obtain rfl:k=l.length:=by omega
   have e3:(⟨((Lib.itoa l.length++[91])++iZ l).toArray⟩:ByteArray)++⟨#[93]⟩=⟨(ng l).toArray⟩:=by
    rw[show (⟨#[93]⟩:ByteArray)=⟨([93]:List UInt8).toArray⟩ from rfl,Bv]
    simp[ng]
   have hss:(⟨((Lib.itoa l.length++[91])++iZ l).toArray⟩:ByteArray).size+1≤9223372036854775807:=by
    show ((Lib.itoa l.length++[91])++iZ l).toArray.size+1≤_
    rw[List.size_toArray]
    simp only[List.length_append,List.length_cons,List.length_nil]
    omega
   rw[List.take_length]at hBk
   have hstr:=PJ w.heap.size w.heap.size _ wr (.inr hBk) hbk.size
   generalize (⟨((Lib.itoa l.length++[91])++iZ l).toArray⟩:ByteArray)=S at *
   go_wp2_with (go_at_call 122;refine hstr.mono ?_;rintro e w5 ⟨rfl,hb5⟩)
   go_ret
   first|exact⟨rfl,hbk.trans hb5⟩|exact⟨by rw[← e3],hbk.trans hb5⟩
set_option maxHeartbeats 1000000 in
set_option maxRecDepth 100000 in
theorem Yf (A:Option Addr) (c:Nat) (w:World) (ht:∀b,se=some b→∃ty fr,w.heap[b]? = some (.cells mZ ty fr)) (htl:∀b,se=some b→b<w.heap.size) :
  Calls Tryz.prog 93 #[.slice A 0 c,.func (.func 94) #[] #[]] w fun e w'=>e=.returned (.string ⟨(ng []).toArray⟩)∧Below w.heap.size w w':=by
 have htk:∀w',Below w.heap.size w w'→∀b,se=some b→∃ty fr,w'.heap[b]? = some (.cells mZ ty fr):=fun w' hbw b hb=>by
  obtain⟨ty,fr,h⟩:=ht b hb
  exact⟨ty,fr,(hbw.block b (htl b hb)).trans h⟩
 have hB0:Below w.heap.size w (w.alloc (.cells #[.pointer none,.slice none 0 0] 150)):=(Below.refl _ w).alloc (Nat.le_refl _) _
 have hsz:=wS 0 (by decide) (by decide)
 have hll:=Lib.itoa_length_le 0 (by decide) (by decide)
 have e1:CG 0++⟨#[91]⟩=⟨(Lib.itoa 0++[91]).toArray⟩:=Bv (Lib.itoa 0) [91]
 go_enter Tryz.func93,Tryz.ntmps93
 have hI0:Lib.IsBuilder 150 5 w.heap.size w.heap.size (Lib.byteCells []) (w.alloc (.cells #[.pointer none,.slice none 0 0] 150)):=O3 w
 go_wp2_with (first
  | (go_at_call 121;refine (Ta 0 _ (by decide) (by decide) (htk _ hB0)).mono ?_;rintro e w1 ⟨rfl,hb1⟩;have hI1:=F2 hI0 hb1;have hz1:w.heap.size≤w1.heap.size:=Nat.le_trans hB0.size hb1.size)
  | (go_at_call 120;refine (N5 w.heap.size w.heap.size [] (Lib.itoa 0++[91]) _ hI1 (by simp only[List.length_nil,List.length_append,List.length_cons];omega) hz1).mono ?_;rintro e w2 ⟨v2,rfl,hB2,hb2⟩))
 have hb20:Below w.heap.size w w2:=(hB0.trans (hb1.mono hB0.size)).trans hb2
 clear hI1 hI0 hB0 hb1 hb2
 go_loopw [15] (fun i wr=>i=.int .i64 0∧wr=w2) (fun i _=>0)
 case atStart=>exact⟨rfl,rfl⟩
 case round =>
  obtain⟨rfl,rfl⟩:=hrel
  have e3:(⟨(Lib.itoa 0++[91]).toArray⟩:ByteArray)++⟨#[93]⟩=⟨(ng []).toArray⟩:=by
   rw[show (⟨#[93]⟩:ByteArray)=⟨([93]:List UInt8).toArray⟩ from rfl,Bv]
   simp[ng,iZ]
  have hss:(⟨(Lib.itoa 0++[91]).toArray⟩:ByteArray).size+1≤9223372036854775807:=by
   show (Lib.itoa 0++[91]).toArray.size+1≤_
   rw[List.size_toArray]
   simp only[List.length_append,List.length_cons,List.length_nil]
   omega
  have hstr:=PJ w.heap.size w.heap.size _ wr (.inr hB2) hb20.size
  rw[List.nil_append]at hstr
  generalize (⟨(Lib.itoa 0++[91]).toArray⟩:ByteArray)=S at *
  go_wp2_with (go_at_call 122;refine hstr.mono ?_;rintro e w5 ⟨rfl,hb5⟩)
  go_ret
  first|exact⟨rfl,hb20.trans hb5⟩|exact⟨by rw[← e3],hb20.trans hb5⟩
theorem Vu:bH Tryz.prog 53 (eL (dJ (iE (eI .i64))) Ph (fun r =>.clean (.str r))) :=
 VM Tryz.func53 ⟨by kernel_rfl,by kernel_rfl⟩ fun l r hr w M u hu ht=>by
  unfold Ph at hr
  split at hr
  rotate_left
  ·cases hr
  rename_i hc
  cases hr
  have hu':RP w M (.sl false false l.length (ab (eI .i64) l)) u:=hu
  obtain⟨A,c,rfl,-,-,-,k4⟩:=GX hu'
  have hcall:Calls Tryz.prog 93 #[.slice A l.length c,.func (.func 94) #[] #[]] w fun e w'=>e=.returned (.string ⟨(ng l).toArray⟩)∧Below w.heap.size w w':=by
   by_cases hl:l=[]
   ·subst hl
    exact Yf A c w (fun b hb=>(ht b hb).is) (fun b hb=>(ht b hb).lt)
   ·obtain⟨b,o,rfl,hb,hM,hcc⟩:=k4 hl
    exact Ye b o c l w hb hcc hc.1 hc.2.1 hc.2.2 (fun b hb=>(ht b hb).is) (fun b hb=>(ht b hb).lt)
  generalize (⟨(ng l).toArray⟩:ByteArray)=S at *
  go_enter Tryz.func53,Tryz.ntmps53
  go_wp2_with (go_at_call 93;refine hcall.mono ?_;rintro e w1 ⟨rfl,hb1⟩)
  go_ret
  exact⟨rfl,hb1⟩
end Go.Proofs.YtpkahnkoecbndaaGreatDoor.Am
namespace Go.Proofs.YtpkahnkoecbndaaGreatDoor.Am
open Go.RowKit Go.Proofs.YtpkahnkoecbndaaGreatDoor.P
set_option linter.unusedSimpArgs false
set_option linter.unusedVariables false
set_option linter.unusedSectionVars false
noncomputable def qo {α β:Type} (E:jX α) (A:mP β) (F:List α→β→Option α):List D→List D→Option (List D):=fun ds us =>
 open Classical in if h:∃p:List α×β,ab E p.1=ds∧A.ds p.2=us then (F (Classical.choose h).1 (Classical.choose h).2).map E.cells else none
theorem SZ {α β:Type} (E:jX α) (A:mP β) (F:List α→β→Option α) (l:List α) (b:β):qo E A F (ab E l) (A.ds b)=(F l b).map E.cells:=by
 have h:∃p:List α×β,ab E p.1=ab E l∧A.ds p.2=A.ds b:=⟨(l,b),rfl,rfl⟩
 simp only[qo]
 rw[dif_pos h,tH E _ _ (Classical.choose_spec h).1,A.inj _ _ (Classical.choose_spec h).2]
theorem rH {α β:Type} {E:jX α} {A:mP β} {F:List α→β→Option α} {ds us cs:List D} (h:qo E A F ds us=some cs):∃l b x,ds=ab E l∧us=A.ds b∧F l b=some x∧cs=E.cells x:=by
 unfold qo at h
 split at h
 ·rename_i he
  obtain⟨h1,h2⟩:=Classical.choose_spec he
  rw[Option.map_eq_some_iff]at h
  obtain⟨x,h3,h4⟩:=h
  exact⟨_,_,x,h1.symm,h2.symm,h3,h4.symm⟩
 ·cases h
theorem JX {α β:Type} (E:jX α) {A:mP β} {F:List α→β→Option α} {B:Nat} {l z:List α} {b:β} (h:((F l b).bind fun x=>iG B l [x])=some z) :
  ∃cs,qo E A F (ab E l) (A.ds b)=some cs∧ab E l++cs=ab E z∧l.length+1=z.length∧z.length*B≤140737488355328:=by
 obtain⟨x,h1,h2⟩:=ae h
 obtain⟨q1,q2,q3,q4⟩:=fi E h2
 exact⟨E.cells x,by rw[SZ,h1];rfl,q2,q1,q4⟩
section
variable {P:Program} {w:World}
theorem G0 (L:Nat→Prop) (w:World) (o:Obj):cu L w (w.alloc o):=⟨rfl,rfl,rfl,by simp,fun k hk _=>heap_alloc_old w o hk⟩
theorem DW {L:Nat→Prop} {g:Nat} (hg:L g) (cs:Array Value):cu L w (w.setRow g cs):=⟨rfl,rfl,rfl,by simp[World.setRow],fun k _ hk=>by
 simp only[World.setRow,Array.getElem?_modify]
 rw[if_neg (fun h:g=k=>hk (h ▸ hg))]⟩
theorem EG (t ty el:Nat) {φ:Ty} (hd:P.underlying t=some (.slice el)) (hφ:dG P el φ) (hpos:0<φ.size) (hz0:φ.zero.length=φ.size) (hby:0<φ.bytes) {go:Option (Nat×Nat)} {u:Value} {n:Nat} {cs:List Value} (hs:yG w el φ.size go u n cs) (hcs:cs.length=n*φ.size)
  (b:Addr) (c:Nat) (us:List Value) (hul:us.length=φ.size) (hus:∀j u,us[j]? = some u→w.cell? (b.add j)=some u) (h1:∀u∈us,u.oneCell'=true) (hb:(n+1)*φ.bytes≤140737488355328) :
  ∃(g:Nat×Nat) (k:Nat) (arr:Array Value) (w':World),(Builtin.append_ #[t,t] ty #[u,.slice (some b) 1 c]).run P w=.ok (.slice (some ⟨g.1,g.2,none⟩) (n+1) k) w'∧cu (mO go) w w'∧(w.heap.size≤g.1∨mO go g.1)∧w'.heap[g.1]? = some (.cells arr el (0,0)) ∧
   n+1≤k∧k≤maxLen∧k*φ.size+g.2=arr.size∧∀(j:Nat) x,(cs++us)[j]? = some x→arr[g.2+j]? = some x:=by
 have h63:n+1≤maxLen:=by
  have:=Nat.le_mul_of_pos_right (n+1) hby
  unfold maxLen
  omega
 have hul1:us.length=1*φ.size:=by omega
 have new:∀(A:Option Addr) (cap:Nat),u=.slice A n cap→cap<n+1→(A=none→n=0∧cap=0)→(∀ad,A=some ad→∀j u,cs[j]? = some u→w.cell? (ad.add j)=some u) →
   ∃(g:Nat×Nat) (k:Nat) (arr:Array Value) (w':World),(Builtin.append_ #[t,t] ty #[u,.slice (some b) 1 c]).run P w=.ok (.slice (some ⟨g.1,g.2,none⟩) (n+1) k) w'∧cu (mO go) w w'∧(w.heap.size≤g.1∨mO go g.1)∧w'.heap[g.1]? = some (.cells arr el (0,0)) ∧
   n+1≤k∧k≤maxLen∧k*φ.size+g.2=arr.size∧∀(j:Nat) x,(cs++us)[j]? = some x→arr[g.2+j]? = some x:=by
  intro A cap hu hcap hA hxs
  subst hu
  obtain⟨k,vs,r1,r2,r3,r4,r5⟩:=uo (P:=P) (w:=w) t ty el hd hφ hpos hz0 A n cap cs hcs hxs hA b 1 c us hul1 hus (by omega) h63 hb
  refine⟨(w.heap.size,0),k,vs,_,r1,⟨rfl,rfl,rfl,by simp,fun k hk _=>heap_alloc_old w.drew _ hk⟩,.inl (Nat.le_refl _),heap_alloc_new w.drew _,r2,r3,by omega,fun j x hj =>?_⟩
  rw[← r5]at hj
  rw[List.getElem?_take]at hj
  split at hj
  ·simpa using hj
  ·cases hj
 rcases hs with⟨g,c0,arr,hgo,hu,hh,hsz,hn,hmx,hcell⟩|⟨hgo,rfl,rfl,A,hu⟩
 ·by_cases hroom:n+1≤c0
  ·subst hu
   have hfit:g.2+n*φ.size+us.length≤arr.size:=by
    have:=Nat.mul_le_mul_right φ.size hroom
    rw[Nat.add_mul]at this
    omega
   have hr:=wg (P:=P) (w:=w) t ty el hd hφ g.1 g.2 n c0 arr hh b 1 c us hul1 hus h1 hroom hfit
   refine⟨g,c0,_,_,hr,DW ⟨g,hgo,rfl⟩ _,.inr ⟨g,hgo,rfl⟩,setRow_heap w g.1 arr _ el (0,0) hh,hroom,hmx,?_,fun j x hj =>?_⟩
   ·simp only[List.size_toArray,List.length_append,List.length_take,List.length_drop,Array.length_toList]
    omega
   ·have hjl:=(List.getElem?_eq_some_iff.1 hj).1
    rw[List.length_append]at hjl
    simp only[List.getElem?_toArray]
    rw[List.append_assoc]
    by_cases hjn:j<cs.length
    ·rw[List.getElem?_append_left hjn]at hj
     have:=hcell j x hj
     rw[List.getElem?_append_left (by simp;omega),List.getElem?_take,if_pos (by omega)]
     simpa using this
    ·rw[List.getElem?_append_right (by omega)]at hj
     rw[List.getElem?_append_right (by simp;omega),List.getElem?_append_left (by simp;omega),← hj]
     congr 1
     simp
     omega
  ·exact new (some ⟨g.1,g.2,none⟩) c0 hu (by omega) (fun h=>by cases h) (fun ad had j u hj=>by
    cases had
    have:=hcell j u hj
    have hlt:=(Array.getElem?_eq_some_iff.1 this).1
    rw[lJ,bz hh hlt,Array.getD_eq_getD_getElem?,this]
    rfl)
 ·exact new A 0 hu (by omega) (fun _=>⟨rfl,rfl⟩) (fun ad _ j u hj=>by simp at hj)
theorem DD {ops:Array Oper} {o:Oper} {a:Act} {K:Act→World→Prop} {Q:Exit→Act→World→Prop} {X:Prop} (hgd:o.guard=none) (s x:Operand) (t el:Nat)
  (ho:o.op=.call { callee := .builtin .append,args:=#[s,x],argTypes:=#[t,t] }) {φ:Ty} (hd:P.underlying t=some (.slice el)) (hφ:dG P el φ) (hpos:0<φ.size) (hz0:φ.zero.length=φ.size) (hby:0<φ.bytes)
  {go:Option (Nat×Nat)} {u:Value} {n:Nat} {cs:List Value} (hsv:a.eval s=u) (hs:yG w el φ.size go u n cs) (hcs:cs.length=n*φ.size)
  (b:Addr) (c:Nat) (us:List Value) (hx:a.eval x=.slice (some b) 1 c) (hul:us.length=φ.size) (hus:∀j u,us[j]? = some u→w.cell? (b.add j)=some u) (h1:∀u∈us,u.oneCell'=true) (hb:(n+1)*φ.bytes≤140737488355328)
  (h:∀(g:Nat×Nat) (k:Nat) (arr:Array Value) (w':World),cu (mO go) w w'→(w.heap.size≤g.1∨mO go g.1)→w'.heap[g.1]? = some (.cells arr el (0,0)) →
   n+1≤k→k≤maxLen→k*φ.size+g.2=arr.size→(∀(j:Nat) x,(cs++us)[j]? = some x→arr[g.2+j]? = some x)→K (a.put o.dst (.slice (some ⟨g.1,g.2,none⟩) (n+1) k)) w') :
  if Region.wanted o (yielded ops a.tmps)=true then Oper.wp P o a w K Q else X:=by
 have hw:Region.wanted o (yielded ops a.tmps)=true:=by simp[Region.wanted,hgd]
 rw[if_pos hw]
 obtain⟨g,k,arr,w',hr,q1,q2,q3,q4,q5,q6,q7⟩:=EG (P:=P) t o.type el hd hφ hpos hz0 hby hs hcs b c us hul hus h1 hb
 unfold Oper.wp execOp
 simp only[ho,resolve,invoke,builtin,Sem.run_bind,Sem.run_pure,Result.andThen_ok,List.map_toArray,List.map_cons,List.map_nil,hsv,hx,hr]
 exact h g k arr w' q1 q2 q3 q4 q5 q6 q7
theorem yG.later {ty k:Nat} {go:Option (Nat×Nat)} {u:Value} {n:Nat} {cs:List Value} {w':World} (hs:yG w ty k go u n cs) (hb:cu (fun _=>False) w w'):yG w' ty k go u n cs:=by
 rcases hs with⟨g,c0,arr,hgo,hu,hh,q⟩|q
 ·exact .inl ⟨g,c0,arr,hgo,hu,(hb.block g.1 (Array.getElem?_eq_some_iff.1 hh).1 (fun h=>h)).trans hh,q⟩
 ·exact .inr q
end
def kM (gy:Nat×Nat) (ya:Array Value) (ty:Nat) (go:Option (Nat×Nat)) (n el size:Nat) (cs:List Value) (w:World) (e:Ending) (w':World):Prop :=
 e=.returned (.int .i64 (n:Int))∧cu (fun b=>b=gy.1∨mO go b) w w' ∧
  ∃(g:Nat×Nat) (c:Nat) (arr:Array Value),(w.heap.size≤g.1∨mO go g.1)∧w'.heap[gy.1]? = some (.cells (ya.setIfInBounds gy.2 (.slice (some ⟨g.1,g.2,none⟩) (n+1) c)) ty (0,0))∧w'.heap[g.1]? = some (.cells arr el (0,0)) ∧
   n+1≤c∧c≤maxLen∧c*size+g.2=arr.size∧∀(j:Nat) x,cs[j]? = some x→arr[g.2+j]? = some x
theorem Bw (w:World) (o o':Obj):cu (fun _=>False) w ((w.alloc o).alloc o').drew:=⟨rfl,rfl,rfl,by simp;omega,fun k hk _=>(heap_alloc_old (w.alloc o) o' (by simp;omega)).trans (heap_alloc_old w o hk)⟩
theorem kM.base {gy:Nat×Nat} {ya:Array Value} {ty:Nat} {go:Option (Nat×Nat)} {n el size:Nat} {cs:List Value} {w wA w':World} {e:Ending} (hA:cu (fun _=>False) w wA) (h:kM gy ya ty go n el size cs wA e w'):kM gy ya ty go n el size cs w e w':=by
 obtain⟨h1,h2,g,c,arr,h3,h4⟩:=h
 exact⟨h1,cu.trans (L:=fun b=>b=gy.1∨mO go b) ⟨hA.os,hA.tape,hA.output,hA.size,fun k hk _=>hA.block k hk (fun h=>h)⟩ h2 (fun x hx _=>hx),g,c,arr,h3.imp (fun h=>Nat.le_trans hA.size h) (fun h=>h),h4⟩
theorem wh (w:World) (a:Addr) (u:Value) (k:Nat) (h:k≠a.block):(w.setCell a u).heap[k]? = w.heap[k]?:=by
 simp only[World.setCell,Array.getElem?_modify]
 rw[if_neg (Ne.symm h)]
theorem Qz {w wA w2:World} {gy g:Nat×Nat} {ya arr:Array Value} {ty el size n k:Nat} {go:Option (Nat×Nat)} {cs:List Value} (hy:w.heap[gy.1]? = some (.cells ya ty (0,0))) (hul:gy.2<ya.size) (hne:∀g,go=some g→g.1≠gy.1) (hA:cu (fun _=>False) w wA) (q1:cu (mO go) wA w2)
  (q2:wA.heap.size≤g.1∨mO go g.1) (q3:w2.heap[g.1]? = some (.cells arr el (0,0))) (q4:n+1≤k) (q5:k≤maxLen) (q6:k*size+g.2=arr.size) (q7:∀(j:Nat) x,cs[j]? = some x→arr[g.2+j]? = some x) (hk0:w2.heap[gy.1]? = some (.cells ya ty (0,0))) :
  kM gy ya ty go n el size cs w (.returned (.int .i64 (n:Int))) (w2.setCell ⟨gy.1,gy.2,none⟩ (.slice (some ⟨g.1,g.2,none⟩) (n+1) k)):=by
 obtain⟨hyl,-⟩:=Array.getElem?_eq_some_iff.1 hy
 have hgg:g.1≠gy.1:=by
  rcases q2 with q2|⟨g0,hg0,he⟩
  ·have:=hA.size;omega
  ·rw[he];exact hne g0 hg0
 have hb:cu (fun b=>b=gy.1∨mO go b) w w2:=cu.trans (L:=fun b=>b=gy.1∨mO go b) (L':=mO go) ⟨hA.os,hA.tape,hA.output,hA.size,fun k hk _=>hA.block k hk (fun h=>h)⟩ q1 (fun x hx _ =>.inr hx)
 refine⟨rfl,⟨hb.os,hb.tape,hb.output,by simpa [World.setCell] using hb.size,fun b hb1 hb2 =>?_⟩,g,k,arr,?_,?_,?_,q4,q5,q6,q7⟩
 ·rw[wh _ _ _ _ (fun h=>hb2 (.inl h))]
  exact hb.block b hb1 hb2
 ·exact q2.imp (fun h=>Nat.le_trans hA.size h) (fun h=>h)
 ·simp[World.setCell,Array.getElem?_modify,hk0]
 ·rw[wh _ _ _ _ hgg];exact q3
set_option maxHeartbeats 2000000 in
set_option maxRecDepth 100000 in
theorem Ix (w:World) (gy:Nat×Nat) (ya:Array Value) (ty:Nat) (go:Option (Nat×Nat)) (u:Value) (n:Nat) (cs:List Value) (s:ByteArray) (v1 v2 v3 v4:Int) (hy:w.heap[gy.1]? = some (.cells ya ty (0,0))) (hu:ya[gy.2]? = some u)
  (hs:yG w 87 5 go u n cs) (hne:∀g,go=some g→g.1≠gy.1) (hcs:cs.length=n*5) (hb:(n+1)*48≤140737488355328) :
  Calls Tryz.prog 64 #[.pointer (some ⟨gy.1,gy.2,none⟩),.agg #[.string s,.int .i64 v1,.int .i64 v2,.int .i64 v3,.int .i64 v4]] w (kM gy ya ty go n 87 5 (cs++[.string s,.int .i64 v1,.int .i64 v2,.int .i64 v3,.int .i64 v4]) w):=by
 obtain⟨hyl,-⟩:=Array.getElem?_eq_some_iff.1 hy
 obtain⟨hul,hue⟩:=Array.getElem?_eq_some_iff.1 hu
 have hcell:∀w':World,w'.heap[gy.1]? = w.heap[gy.1]?→w'.cell? ⟨gy.1,gy.2,none⟩=some u∧w'.frozen? ⟨gy.1,gy.2,none⟩=false:=by
  intro w' h
  rw[hy]at h
  refine⟨?_,?_⟩
  ·rw[bz h hul,Array.getD_eq_getD_getElem?,hu];rfl
  ·simp[World.frozen?,h]
 go_enter Tryz.func64,Tryz.ntmps64
 go_wp2
 generalize hW:w.alloc (.cells #[.string s,.int .i64 v1,.int .i64 v2,.int .i64 v3,.int .i64 v4] 87)=W
 have hWs:W.heap.size=w.heap.size+1:=by rw[← hW];simp
 have hWb:cu (fun _=>False) w W:=by rw[← hW];exact G0 _ w _
 have hWn:W.heap[w.heap.size]? = some (.cells #[.string s,.int .i64 v1,.int .i64 v2,.int .i64 v3,.int .i64 v4] 87):=by rw[← hW];exact heap_alloc_new w _
 have c0:W.drew.cell? ⟨gy.1,gy.2,none⟩=some u:=(hcell W.drew (hWb.block gy.1 hyl (fun h=>h))).1
 have c1:∀o,(W.drew.alloc o).cell? ⟨gy.1,gy.2,none⟩=some u:=fun o=>(hcell (W.drew.alloc o) ((heap_alloc_old W.drew o (by show gy.1<W.heap.size;omega)).trans (hWb.block gy.1 hyl (fun h=>h)))).1
 have c2:∀o,(W.alloc o).drew.cell? ⟨gy.1,gy.2,none⟩=some u:=c1
 have b0:W.drew.cell? ⟨w.heap.size,0,none⟩=some (.string s):=bz (w:=W.drew) hWn (by simp)
 have b1:W.drew.cell? ⟨w.heap.size,1,none⟩=some (.int .i64 v1):=bz (w:=W.drew) hWn (by simp)
 have b2:W.drew.cell? ⟨w.heap.size,2,none⟩=some (.int .i64 v2):=bz (w:=W.drew) hWn (by simp)
 have b3:W.drew.cell? ⟨w.heap.size,3,none⟩=some (.int .i64 v3):=bz (w:=W.drew) hWn (by simp)
 have b4:W.drew.cell? ⟨w.heap.size,4,none⟩=some (.int .i64 v4):=bz (w:=W.drew) hWn (by simp)
 generalize hO:Obj.cells #[.string s,.int .i64 v1,.int .i64 v2,.int .i64 v3,.int .i64 v4] 87=O at *
 have hbb:cu (fun _=>False) w (W.drew.alloc O):=hWb.trans (show cu (fun _=>False) W (W.drew.alloc O) from ⟨rfl,rfl,rfl,by simp,fun k hk _=>heap_alloc_old W.drew O hk⟩) (fun _ h _=>h)
 have hsA:=hs.later hbb
 have hnews:∀(j:Nat) x,([Value.string s,.int .i64 v1,.int .i64 v2,.int .i64 v3,.int .i64 v4]:List Value)[j]? = some x→(W.drew.alloc O).cell? ((⟨w.heap.size+1,0,none⟩:Addr).add j)=some x:=by
  intro j x hj
  have hn:(W.drew.alloc O).heap[w.heap.size+1]? = some (.cells #[.string s,.int .i64 v1,.int .i64 v2,.int .i64 v3,.int .i64 v4] 87):=by rw[hO,← hWs];exact heap_alloc_new W.drew _
  have hlt:=(List.getElem?_eq_some_iff.1 hj).1
  rw[lJ,Nat.zero_add,bz hn (by simpa using hlt),Array.getD_eq_getD_getElem?]
  simp only[List.getElem?_toArray,hj,Option.getD_some]
 have hones:∀x∈([Value.string s,.int .i64 v1,.int .i64 v2,.int .i64 v3,.int .i64 v4]:List Value),x.oneCell'=true:=by
  intro x hx
  simp only[List.mem_cons,List.not_mem_nil,or_false]at hx
  rcases hx with rfl|rfl|rfl|rfl|rfl<;>rfl
 subst hO
 have hnot:¬mO go gy.1:=by rintro⟨g,hg,he⟩;exact hne g hg he.symm
 go_region_law (refine DD rfl (.tmp 10) (.tmp 12) 22 87 rfl Tryz.underlying22 WH (by decide) rfl (by decide) rfl hsA hcs ⟨w.heap.size+1,0,none⟩ 1 _ rfl rfl hnews hones hb ?_;intro g k arr w2 q1 q2 q3 q4 q5 q6 q7;have hk0:w2.heap[gy.1]? = some (.cells ya ty (0,0)):=(q1.block gy.1 (Nat.lt_of_lt_of_le hyl hbb.size) hnot).trans ((hbb.block gy.1 hyl (fun h=>h)).trans hy);obtain⟨d0,d1⟩:=hcell w2 (hk0.trans hy.symm))
 all_goals go_wp2
 all_goals go_ret
 all_goals exact Qz hy hul hne hbb q1 q2 q3 q4 q5 q6 q7 hk0
set_option maxHeartbeats 4000000 in
set_option maxRecDepth 100000 in
theorem Q7 (w:World) (gy:Nat×Nat) (ya:Array Value) (ty:Nat) (go:Option (Nat×Nat)) (u:Value) (n:Nat) (cs:List Value) (i j:Nat) (s1 s2:ByteArray) (v1 v2 v3 v4 u1 u2 u3 u4:Int) (hy:w.heap[gy.1]? = some (.cells ya ty (0,0))) (hu:ya[gy.2]? = some u)
  (hs:yG w 87 5 go u n cs) (hne:∀g,go=some g→g.1≠gy.1) (hcs:cs.length=n*5) (hb:(n+1)*48≤140737488355328) (hi:i<n) (hj:j<n)
  (hx:∀q x,[Value.string s1,.int .i64 v1,.int .i64 v2,.int .i64 v3,.int .i64 v4][q]? = some x→cs[i*5+q]? = some x) (hz:∀q x,[Value.string s2,.int .i64 u1,.int .i64 u2,.int .i64 u3,.int .i64 u4][q]? = some x→cs[j*5+q]? = some x) :
  Calls Tryz.prog 66 #[.pointer (some ⟨gy.1,gy.2,none⟩),.int .i64 (i:Int),.int .i64 (j:Int)] w (kM gy ya ty go n 87 5 (cs++[.string ⟨#[]⟩,.int .i64 (IntKind.i64.wrap (v1+u1)),.int .i64 (IntKind.i64.wrap (v2+u2)),.int .i64 (i:Int),.int .i64 (j:Int)]) w):=by
 obtain⟨hyl,-⟩:=Array.getElem?_eq_some_iff.1 hy
 obtain⟨hul,hue⟩:=Array.getElem?_eq_some_iff.1 hu
 rcases hs with⟨g,c,arr,hgo,rfl,hh,hsz,hn,hmx,hcell⟩|⟨-,hn,-⟩
 rotate_left
 ·omega
 obtain⟨hgl,-⟩:=Array.getElem?_eq_some_iff.1 hh
 have ecel:∀w':World,(∀k,k<w.heap.size→w'.heap[k]? = w.heap[k]?)→w'.cell? ⟨gy.1,gy.2,none⟩=some (.slice (some ⟨g.1,g.2,none⟩) n c):=by
  intro w' hw
  rw[bz ((hw _ hyl).trans hy) hul,Array.getD_eq_getD_getElem?,hu];rfl
 have cel:∀w':World,(∀k,k<w.heap.size→w'.heap[k]? = w.heap[k]?)→∀(k:Nat) x,cs[k]? = some x→w'.cell? ⟨g.1,g.2+k,none⟩=some x:=by
  intro w' hw k x hk
  have:=hcell k x hk
  have hlt:=(Array.getElem?_eq_some_iff.1 this).1
  rw[bz ((hw _ hgl).trans hh) hlt,Array.getD_eq_getD_getElem?,this];rfl
 have w1:∀o k,k<w.heap.size→(w.alloc o).heap[k]? = w.heap[k]?:=fun o k hk=>heap_alloc_old w o hk
 have w2:∀o o' k,k<w.heap.size→((w.alloc o).alloc o').heap[k]? = w.heap[k]?:=fun o o' k hk=>(heap_alloc_old (w.alloc o) o' (by simp;omega)).trans (heap_alloc_old w o hk)
 have e0:=ecel w (fun _ _=>rfl)
 have e1:=fun o=>ecel (w.alloc o) (w1 o)
 have e2:=fun o o'=>ecel ((w.alloc o).alloc o') (w2 o o')
 have a0:∀w':World,(∀k,k<w.heap.size→w'.heap[k]? = w.heap[k]?)→w'.cell? ⟨g.1,g.2+i*5,none⟩=some (.string s1):=fun w' hw=>cel w' hw (i*5+0) _ (hx 0 _ rfl)
 have a0x:=a0 w (fun _ _=>rfl)
 have a0y:=fun o=>a0 (w.alloc o) (w1 o)
 have a0z:=fun o o'=>a0 ((w.alloc o).alloc o') (w2 o o')
 clear a0
 have a1:∀w':World,(∀k,k<w.heap.size→w'.heap[k]? = w.heap[k]?)→w'.cell? ⟨g.1,g.2+i*5+1,none⟩=some (.int .i64 v1):=fun w' hw=>cel w' hw (i*5+1) _ (hx 1 _ rfl)
 have a1x:=a1 w (fun _ _=>rfl)
 have a1y:=fun o=>a1 (w.alloc o) (w1 o)
 have a1z:=fun o o'=>a1 ((w.alloc o).alloc o') (w2 o o')
 clear a1
 have a2:∀w':World,(∀k,k<w.heap.size→w'.heap[k]? = w.heap[k]?)→w'.cell? ⟨g.1,g.2+i*5+2,none⟩=some (.int .i64 v2):=fun w' hw=>cel w' hw (i*5+2) _ (hx 2 _ rfl)
 have a2x:=a2 w (fun _ _=>rfl)
 have a2y:=fun o=>a2 (w.alloc o) (w1 o)
 have a2z:=fun o o'=>a2 ((w.alloc o).alloc o') (w2 o o')
 clear a2
 have a3:∀w':World,(∀k,k<w.heap.size→w'.heap[k]? = w.heap[k]?)→w'.cell? ⟨g.1,g.2+i*5+3,none⟩=some (.int .i64 v3):=fun w' hw=>cel w' hw (i*5+3) _ (hx 3 _ rfl)
 have a3x:=a3 w (fun _ _=>rfl)
 have a3y:=fun o=>a3 (w.alloc o) (w1 o)
 have a3z:=fun o o'=>a3 ((w.alloc o).alloc o') (w2 o o')
 clear a3
 have a4:∀w':World,(∀k,k<w.heap.size→w'.heap[k]? = w.heap[k]?)→w'.cell? ⟨g.1,g.2+i*5+4,none⟩=some (.int .i64 v4):=fun w' hw=>cel w' hw (i*5+4) _ (hx 4 _ rfl)
 have a4x:=a4 w (fun _ _=>rfl)
 have a4y:=fun o=>a4 (w.alloc o) (w1 o)
 have a4z:=fun o o'=>a4 ((w.alloc o).alloc o') (w2 o o')
 clear a4
 have b0:∀w':World,(∀k,k<w.heap.size→w'.heap[k]? = w.heap[k]?)→w'.cell? ⟨g.1,g.2+j*5,none⟩=some (.string s2):=fun w' hw=>cel w' hw (j*5+0) _ (hz 0 _ rfl)
 have b0x:=b0 w (fun _ _=>rfl)
 have b0y:=fun o=>b0 (w.alloc o) (w1 o)
 have b0z:=fun o o'=>b0 ((w.alloc o).alloc o') (w2 o o')
 clear b0
 have b1:∀w':World,(∀k,k<w.heap.size→w'.heap[k]? = w.heap[k]?)→w'.cell? ⟨g.1,g.2+j*5+1,none⟩=some (.int .i64 u1):=fun w' hw=>cel w' hw (j*5+1) _ (hz 1 _ rfl)
 have b1x:=b1 w (fun _ _=>rfl)
 have b1y:=fun o=>b1 (w.alloc o) (w1 o)
 have b1z:=fun o o'=>b1 ((w.alloc o).alloc o') (w2 o o')
 clear b1
 have b2:∀w':World,(∀k,k<w.heap.size→w'.heap[k]? = w.heap[k]?)→w'.cell? ⟨g.1,g.2+j*5+2,none⟩=some (.int .i64 u2):=fun w' hw=>cel w' hw (j*5+2) _ (hz 2 _ rfl)
 have b2x:=b2 w (fun _ _=>rfl)
 have b2y:=fun o=>b2 (w.alloc o) (w1 o)
 have b2z:=fun o o'=>b2 ((w.alloc o).alloc o') (w2 o o')
 clear b2
 have b3:∀w':World,(∀k,k<w.heap.size→w'.heap[k]? = w.heap[k]?)→w'.cell? ⟨g.1,g.2+j*5+3,none⟩=some (.int .i64 u3):=fun w' hw=>cel w' hw (j*5+3) _ (hz 3 _ rfl)
 have b3x:=b3 w (fun _ _=>rfl)
 have b3y:=fun o=>b3 (w.alloc o) (w1 o)
 have b3z:=fun o o'=>b3 ((w.alloc o).alloc o') (w2 o o')
 clear b3
 have b4:∀w':World,(∀k,k<w.heap.size→w'.heap[k]? = w.heap[k]?)→w'.cell? ⟨g.1,g.2+j*5+4,none⟩=some (.int .i64 u4):=fun w' hw=>cel w' hw (j*5+4) _ (hz 4 _ rfl)
 have b4x:=b4 w (fun _ _=>rfl)
 have b4y:=fun o=>b4 (w.alloc o) (w1 o)
 have b4z:=fun o o'=>b4 ((w.alloc o).alloc o') (w2 o o')
 clear b4
 clear hx hz ecel cel w1
 have w3:∀o o' k,k<w.heap.size→((w.alloc o).alloc o').drew.heap[k]? = w.heap[k]?:=w2
 have hi1:(0:Int)≤(i:Int):=by omega
 have hi2:(i:Int)<(n:Int):=by omega
 have hj1:(0:Int)≤(j:Int):=by omega
 have hj2:(j:Int)<(n:Int):=by omega
 go_enter Tryz.func66,Tryz.ntmps66
 go_wp2
 go_region
 all_goals (go_wp2_with (go_at_call 64;refine (Ix _ gy ya ty go _ n cs _ _ _ _ _ ((w3 _ _ _ hyl).trans hy) hu (yG.later (.inl ⟨g,c,arr,hgo,rfl,hh,hsz,hn,hmx,hcell⟩) (Bw w _ _)) hne hcs hb).mono ?_;rintro e w' hp;obtain⟨rfl,hp2⟩:=kM.base (Bw w _ _) hp))
 all_goals go_ret
 all_goals (simp only[← IntWalk.i64_left]at hp2;exact⟨rfl,hp2.1,hp2.2⟩)
section
variable {α:Type} (E:jX α) (mk:ByteArray→Int→Int→Int→Int→α) (hmk:∀s a b c d,E.cells (mk s a b c d)=[.str s,.int .i64 a,.int .i64 b,.int .i64 c,.int .i64 d]) (hall:∀x,∃s a b c d,x=mk s a b c d)
include hmk hall
theorem sg:E.size=5:=by
 rw[← E.len (mk ⟨#[]⟩ 0 0 0 0),hmk];rfl
theorem sf (x:α):∀d∈E.cells x,vW d=true:=by
 obtain⟨s,a,b,c,d,rfl⟩:=hall x
 rw[hmk]
 intro y hy
 simp only[List.mem_cons,List.not_mem_nil,or_false]at hy
 rcases hy with rfl|rfl|rfl|rfl|rfl<;>rfl
theorem Aq (l:List α):∀d∈ab E l,vW d=true:=by
 induction l with
 | nil=>intro d hd;cases hd
 | cons x l ih =>
  intro d hd
  rcases List.mem_append.1 hd with h|h
  ·exact sf E mk hmk hall x d h
  ·exact ih d h
theorem WO:Bl Tryz.prog 64 ⟨87,5,48,qo E (dJ (cJ E)) Iw⟩ where
 callable:=⟨_,Tryz.func64,by kernel_rfl,by kernel_rfl⟩
 pos:=Nat.zero_lt_succ 4
 flat ds us cs h:=by
  obtain⟨l,b,x,rfl,rfl,hx,rfl⟩:=rH (show qo E (dJ (cJ E)) Iw ds us=some cs from h)
  refine⟨Aq E mk hmk hall l,fun d hd =>?_,sf E mk hmk hall x,by rw[E.len];exact sg E mk hmk hall⟩
  simp only[dJ,List.mem_cons,List.not_mem_nil,or_false]at hd
  subst hd
  exact List.all_eq_true.2 (sf E mk hmk hall b)
 calls w gy ya ty go u n ds us cs hy hu hs hne hlen hsem hb:=by
  obtain⟨l,b,x,rfl,rfl,hx,rfl⟩:=rH (show qo E (dJ (cJ E)) Iw ds us=some cs from hsem)
  obtain rfl:b=x:=by simpa [Iw] using hx
  obtain⟨s,v1,v2,v3,v4,rfl⟩:=hall b
  have h:=Ix w gy ya ty go u n _ s v1 v2 v3 v4 hy hu hs hne (by simpa using hlen) hb
  have e1:(dJ (cJ E)).ds (mk s v1 v2 v3 v4)=[.agg [.str s,.int .i64 v1,.int .i64 v2,.int .i64 v3,.int .i64 v4]]:=by
   simp only[dJ,WN,hmk]
  rw[e1,hmk]
  refine h.mono fun e w' hp =>?_
  simpa [kM,AX] using hp
end
section
variable {α:Type} (E:jX α) (mk:ByteArray→Int→Int→Int→Int→α) (hmk:∀s a b c d,E.cells (mk s a b c d)=[.str s,.int .i64 a,.int .i64 b,.int .i64 c,.int .i64 d]) (hall:∀x,∃s a b c d,x=mk s a b c d) (val bl:α→Int) (hval:∀s a b c d,val (mk s a b c d)=a) (hbl:∀s a b c d,bl (mk s a b c d)=b)
include hmk hall hval hbl
theorem DF {l:List α} {i:Int} {s:ByteArray} {v1 v2 v3 v4:Int} (h:P.idx l i=some (mk s v1 v2 v3 v4)):0≤i∧i<l.length∧∀q x,[Value.string s,.int .i64 v1,.int .i64 v2,.int .i64 v3,.int .i64 v4][q]? = some x→((ab E l).map AX)[i.toNat*5+q]? = some x:=by
 have hb:=tR h
 have ha:=xN E h
 rw[sg E mk hmk hall,hmk]at ha
 refine⟨hb.1,hb.2,fun q x hx =>?_⟩
 have hq:=(List.getElem?_eq_some_iff.1 hx).1
 simp only[List.length_cons,List.length_nil]at hq
 have h1:((ab E l).drop (i.toNat*5))[q]? = [D.str s,.int .i64 v1,.int .i64 v2,.int .i64 v3,.int .i64 v4][q]?:=by
  rw[ha,List.getElem?_append_left (by simpa using hq)]
 rw[List.getElem?_drop]at h1
 rw[List.getElem?_map,h1,← List.getElem?_map]
 exact hx
theorem VC:Bl Tryz.prog 66 ⟨87,5,48,qo E (ec (aI .i64) (dJ (aI .i64))) (z7 mk val bl)⟩ where
 callable:=⟨_,Tryz.func66,by kernel_rfl,by kernel_rfl⟩
 pos:=Nat.zero_lt_succ 4
 flat ds us cs h:=by
  obtain⟨l,b,x,rfl,rfl,hx,rfl⟩:=rH (show qo E (ec (aI .i64) (dJ (aI .i64))) (z7 mk val bl) ds us=some cs from h)
  refine⟨Aq E mk hmk hall l,fun d hd =>?_,sf E mk hmk hall x,by rw[E.len];exact sg E mk hmk hall⟩
  simp only[dJ,ec,Zv,List.mem_cons,List.not_mem_nil,or_false]at hd
  rcases hd with rfl|rfl<;>rfl
 calls w gy ya ty go u n ds us cs hy hu hs hne hlen hsem hb:=by
  obtain⟨l,⟨i,j⟩,z,rfl,rfl,hz,rfl⟩:=rH (show qo E (ec (aI .i64) (dJ (aI .i64))) (z7 mk val bl) ds us=some cs from hsem)
  unfold z7 at hz
  obtain⟨x,hx,hz⟩:=ae hz
  obtain⟨y,hy1,hz⟩:=ae hz
  simp only[Option.some.injEq]at hz
  subst hz
  obtain⟨s,v1,v2,v3,v4,rfl⟩:=hall x
  obtain⟨s2,u1,u2,u3,u4,rfl⟩:=hall y
  obtain⟨i1,i2,i3⟩:=DF E mk hmk hall val bl hval hbl hx
  obtain⟨j1,j2,j3⟩:=DF E mk hmk hall val bl hval hbl hy1
  have hn:l.length=n:=by
   rw[cQ,sg E mk hmk hall]at hlen
   exact Nat.eq_of_mul_eq_mul_right (by decide) hlen
  have h:=Q7 w gy ya ty go u n _ i.toNat j.toNat s s2 v1 v2 v3 v4 u1 u2 u3 u4 hy hu hs hne (by simpa using hlen) hb (by omega) (by omega) i3 j3
  have ei:((i.toNat:Nat):Int)=i:=by omega
  have ej:((j.toNat:Nat):Int)=j:=by omega
  rw[ei,ej]at h
  rw[hmk,hval,hval,hbl,hbl]
  refine h.mono fun e w' hp =>?_
  simpa [kM,AX] using hp
end
set_option maxRecDepth 100000
noncomputable def Kh:List (String×DataW Unit):=[("math/bits.deBruijn32tab",Rows.laid_math_bits_deBruijn32tab),("math/bits.deBruijn64tab",Rows.laid_math_bits_deBruijn64tab),("internal/strconv.uint64pow10",Rows.laid_internal_strconv_uint64pow10)]
theorem SG (os:Os) (args:Array Value):laidMetH Tryz.prog Kh ((World.doorLaid Tryz.prog 400 os).forCall (fun _ _=>0) ⟨#[],args,[]⟩).memory :=
 laidMetH_of_parts3 (fuel:=8) (laidMet_of_run' 8 (by kernel_rfl) (by kernel_rfl)) (by kernel_rfl) (by kernel_rfl)
theorem Vo:Rows.laid_internal_strconv_uint64pow10 (H:=Unit)=Lib.tabData .u64 Lib.pow10Tab:=by
 simp[Rows.laid_internal_strconv_uint64pow10,Lib.tabData,Lib.pow10Tab,List.range,List.range.loop]
theorem Tc {w:World} (h:laidMetH Tryz.prog Kh w):GY w (fun _=>False):=fun b hb=>by
 rw[MakeChecks.laidMetH_plain _ _ _ (by kernel_rfl)]at h
 have h3:laidMet Tryz.prog [("internal/strconv.uint64pow10",Rows.laid_internal_strconv_uint64pow10)] w:=h.tail.tail
 rw[Vo]at h3
 have ht:Lib.TabIs Tryz.prog w "internal/strconv.uint64pow10" .u64 Lib.pow10Tab:=Lib.tabIs_of_head (g:=0) (t:=204) (e:=178) (n:=20) (by kernel_rfl) (by kernel_rfl) (by kernel_rfl) (by kernel_rfl) (by kernel_rfl) (by kernel_rfl) h3
 cases hb
 have hg:Tryz.prog.globalNamed "internal/strconv.uint64pow10" = some 0:=by kernel_rfl
 simp only[Lib.TabIs,World.var?,hg,Option.bind_some]at ht
 have hc:∃ty fr,w.heap[0]? = some (.cells mZ ty fr):=by
  split at ht
  ·rename_i cs ty fr hcs
   refine⟨ty,fr,?_⟩
   rw[hcs]
   have e:cs=mZ:=by
    have:=Option.some.inj ht
    rw[this]
    simp[Lib.pow10Tab,mZ]
   rw[e]
  ·cases ht
 obtain⟨ty,fr,hc⟩:=hc
 exact⟨(Array.getElem?_eq_some_iff.1 hc).1,fun h=>h,ty,fr,hc⟩
end Go.Proofs.YtpkahnkoecbndaaGreatDoor.Am
namespace Go.Proofs.YtpkahnkoecbndaaGreatDoor.P
open Go.RowKit
set_option linter.unusedVariables false
structure an where
 ag:Int
 aa:(List Int)
structure aF where
 bx:an
 bt:an
structure bK where
 aH:aF
 az:aF
structure aB where
 ct:Int
 bP:bK
structure fh where
 aR:(List ByteArray)
 a8:(List Int)
 bu:(List Int)
structure aN where
 ct:Int
 dO:(List Int)
 cI:ByteArray
 aJ:Int
 aM:Int
structure bp where
 ct:Int
 kS:Int
structure al where
 cI:ByteArray
 aJ:Int
 aM:Int
 bn:Int
 bg:Int
structure ax where
 ah:(List al)
structure kc where
 Vk:ax
 yQ:Int
 uM:Int
 uL:Int
structure xj where
 A7:ax
def XZ:ByteArray:=ByteArray.mk #[0,1,2,2,3,3,3,3,4,4,4,4,4,4,4,4,5,5,5,5,5,5,5,5,5,5,5,5,5,5,5,5,6,6,6,6,6,6,6,6,6,6,6,6,6,6,6,6,6,6,6,6,6,6,6,6,6,6,6,6,6,6,6,6,7,7,7,7,7,7,7,7,7,7,7,7,7,7,7,7,7,7,7,7,7,7,7,7,7,7,7,7,7,7,7,7,7,7,7,7,7,7,7,7,7,7,7,7,7,7,7,7,7,7,7,7,7,7,7,7,7,7,7,7,7,7,7,7,8,8,8,8,8,8,8,8,8,8,8,8,8,8,8,8,8,8,8,8,8,8,8,8,8,8,8,8,8,8,8,8,8,8,8,8,8,8,8,8,8,8,8,8,8,8,8,8,8,8,8,8,8,8,8,8,8,8,8,8,8,8,8,8,8,8,8,8,8,8,8,8,8,8,8,8,8,8,8,8,8,8,8,8,8,8,8,8,8,8,8,8,8,8,8,8,8,8,8,8,8,8,8,8,8,8,8,8,8,8,8,8,8,8,8,8,8,8,8,8,8,8,8,8,8,8,8,8]
def eD (p0:Int) (p1:Int):Option (Bool) :=
 if decide (p0≥0) then
  some (decide (p0≤p1))
 else
  some false
def jo (p0:al):Option (Bool) :=
 (if (p0.bn==(-1)) then
  some (p0.bg==(-1))
 else
  some false).bind fun s3j1 =>
 if s3j1 then
  if decide ((p0.cI.size:Int)≤8000) then
   (eD p0.aJ 1099511627776).bind fun r4 =>
   if r4 then
    (eD p0.aM 1099511627776).bind fun r6 =>
    some r6
   else
    some false
  else
   some false
 else
  some false
def kl (p0:(List al)) (p1:Int) (p2:Int):Option (al×Int) :=
 (eD p1 (IntKind.i64.wrap ((p0.length:Int)-1))).bind fun r1 =>
 (if (!r1) then
  some true
 else
  (eD p2 (IntKind.i64.wrap ((p0.length:Int)-1))).bind fun r9 =>
  some (!r9)).bind fun s24j1 =>
 if s24j1 then
  some ((al.mk (ByteArray.mk #[]) 0 0 0 0),4)
 else
  (P.idx p0 p1).bind fun x4 =>
  (P.idx p0 p2).bind fun x5 =>
  if decide ((IntKind.i64.wrap (x4.aJ+x5.aJ))>1125899906842624) then
   some ((al.mk (ByteArray.mk #[]) 0 0 0 0),3)
  else
   if decide ((IntKind.i64.wrap (x4.aM+x5.aM))>1125899906842624) then
    some ((al.mk (ByteArray.mk #[]) 0 0 0 0),3)
   else
    some ((al.mk (ByteArray.mk #[]) (IntKind.i64.wrap (x4.aJ+x5.aJ)) (IntKind.i64.wrap (x4.aM+x5.aM)) p1 p2),0)
def lA (p0:ax):(Int)→Option ((Int)⊕((Unit)⊕(Bool)))
 | s14a =>
  if decide (s14a<(p0.ah.length:Int)) then
   (P.idx p0.ah s14a).bind fun x13 =>
   (jo x13).bind fun r14 =>
   if r14 then
    some (.inl (IntKind.i64.wrap (s14a+1)))
   else
    (DA p0.ah 0 s14a).bind fun x16 =>
    (kl x16 x13.bn x13.bg).bind fun r18 =>
    if (r18.2 != 0) then
     some (.inr (.inr false))
    else
     if (!((x13.cI==r18.1.cI)&&((x13.aJ==r18.1.aJ)&&((x13.aM==r18.1.aM)&&((x13.bn==r18.1.bn)&&(x13.bg==r18.1.bg)))))) then
      some (.inr (.inr false))
     else
      some (.inl (IntKind.i64.wrap (s14a+1)))
  else
   some (.inr (.inl ()))
def du (p0:ax):Option (Bool) :=
 if decide ((p0.ah.length:Int)>2000) then
  some false
 else
  (aV (lA p0) 0).bind fun q=>match q with
  | (.inl _) =>
   some true
  | (.inr ra) =>
   some ra
def kC (p0:ByteArray) (p1:Int) (p2:Int):Option (al) :=
 some (al.mk p0 p1 p2 (-1) (-1))
def dD (p0:(List al)):Option (List al):=iG 48 [] p0
def lS (l:List al) (p1:al):Option (List al):=(Iw l p1).bind fun x=>iG 48 l [x]
def bk (p0:(List Int)):Option (List Int):=iG 8 [] p0
def jb (l:List al) (p1:Int) (p2:Int):Option (List al):=((z7 al.mk (fun x=>x.aJ) (fun x=>x.aM)) l (p1,p2)).bind fun x=>iG 48 l [x]
def jU (p1:(List ByteArray)) (p2:(List Int)) (p3:(List Int)):(Int)→Option ((Int)⊕((Unit)⊕(ax×Int×(List Int)×Int)))
 | s43b =>
  if decide (s43b<(p1.length:Int)) then
   (P.idx p1 s43b).bind fun x14 =>
   (P.idx p2 s43b).bind fun x15 =>
   (P.idx p3 s43b).bind fun x16 =>
   (kC x14 x15 x16).bind fun r17 =>
   (du (ax.mk ([r17]))).bind fun r19 =>
   if (!r19) then
    some (.inr (.inr ((ax.mk ([])),(-1),[],1)))
   else
    some (.inl (IntKind.i64.wrap (s43b+1)))
  else
   some (.inr (.inl ()))
def iS (p1:(List ByteArray)) (p2:(List Int)) (p3:(List Int)):(Int×(List Int)×(List al))→Option ((Int×(List Int)×(List al))⊕(((List Int)×(List al))))
 | (s85d,l10d,l1000014d) =>
  if decide (s85d<(p1.length:Int)) then
   (P.idx p1 s85d).bind fun x35 =>
   (P.idx p2 s85d).bind fun x36 =>
   (P.idx p3 s85d).bind fun x37 =>
   (kC x35 x36 x37).bind fun r38 =>
   (lS l1000014d r38).bind fun x39 =>
   (iG 8 l10d [(l1000014d.length:Int)]).bind fun x41 =>
   some (.inl (IntKind.i64.wrap (s85d+1),x41,x39))
  else
   some (.inr (l10d,l1000014d))
def iT (l16e:(List Int)):(Int×(List Int)×(List al))→Option ((Int×(List Int)×(List al))⊕(((List Int)×(List al))))
 | (s18g,l17g,l1000014g) =>
  if decide ((IntKind.i64.wrap (s18g+1))<((l16e).length:Int)) then
   (P.idx l16e s18g).bind fun x77 =>
   (P.idx l16e (IntKind.i64.wrap (s18g+1))).bind fun x78 =>
   (jb l1000014g x77 x78).bind fun x79 =>
   (iG 8 l17g [(l1000014g.length:Int)]).bind fun x81 =>
   some (.inl (IntKind.i64.wrap (s18g+2),x81,x79))
  else
   some (.inr (l17g,l1000014g))
def gJ:((List Int)×(List al))→Option (((List Int)×(List al))⊕(((List Int)×(List al))))
 | (l16e,l1000014e) =>
  if decide (((l16e).length:Int)>1) then
   (aV (iT l16e) (0,[],l1000014e)).bind fun q=>match q with
   | (l17gx,l1000014gx) =>
    (vG .i64 ((l16e).length:Int) 2).bind fun x83 =>
    if (x83==1) then
     (P.idx l16e (IntKind.i64.wrap (((l16e).length:Int)-1))).bind fun x86 =>
     (iG 8 l17gx [x86]).bind fun x87 =>
     some (.inl (x87,l1000014gx))
    else
     some (.inl (l17gx,l1000014gx))
  else
   some (.inr (l16e,l1000014e))
def iA (p0:ax) (p1:(List ByteArray)) (p2:(List Int)) (p3:(List Int)):Option (ax×Int×(List Int)×Int) :=
 (du p0).bind fun r1 =>
 (if (!r1) then
  some true
 else
  if ((p1.length:Int)==0) then
   some true
  else
   if ((p2.length:Int) != (p1.length:Int)) then
    some true
   else
    some ((p3.length:Int) != (p1.length:Int))).bind fun s39j1 =>
 if s39j1 then
  some ((ax.mk ([])),(-1),[],1)
 else
  (aV (jU p1 p2 p3) 0).bind fun q=>match q with
  | (.inl _) =>
   (if decide ((p1.length:Int)>64) then
    some true
   else
    some (decide ((IntKind.i64.wrap ((IntKind.i64.wrap ((p0.ah.length:Int)+(IntKind.i64.wrap (2*(p1.length:Int)))))-1))>2000))).bind fun s76j3 =>
   if s76j3 then
    some ((ax.mk ([])),(-1),[],6)
   else
    (dD p0.ah).bind fun r23 =>
    (aV (iS p1 p2 p3) (0,[],r23)).bind fun q=>match q with
    | (l10dx,l1000014dx) =>
     (bk l10dx).bind fun r43 =>
     (aV (gJ) (r43,l1000014dx)).bind fun q=>match q with
     | (l16ex,l1000014ex) =>
      (P.idx l16ex 0).bind fun x89 =>
      some ((ax.mk l1000014ex),x89,l10dx,0)
  | (.inr rb) =>
   some rb
def sJ (p0:(List Int)) (p1:(List Int)):(Int)→Option ((Int)⊕((Unit)⊕(Bool)))
 | s5a =>
  if decide (s5a<(p0.length:Int)) then
   (P.idx p0 s5a).bind fun x8 =>
   (P.idx p1 s5a).bind fun x9 =>
   if (x8 != x9) then
    some (.inr (.inr false))
   else
    some (.inl (IntKind.i64.wrap (s5a+1)))
  else
   some (.inr (.inl ()))
def gB (p0:(List Int)) (p1:(List Int)):Option (Bool) :=
 if ((p0.length:Int) != (p1.length:Int)) then
  some false
 else
  (aV (sJ p0 p1) 0).bind fun q=>match q with
  | (.inl _) =>
   some true
  | (.inr ra) =>
   some ra
def uk (p0:(List Int)):(Int)→Option ((Int)⊕((Int)))
 | s3a =>
  if decide (s3a>0) then
   (P.idx p0 (IntKind.i64.wrap (s3a-1))).bind fun x6 =>
   if (x6==0) then
    some (.inl (IntKind.i64.wrap (s3a-1)))
   else
    some (.inr s3a)
  else
   some (.inr s3a)
def gA (p0:(List Int)):Option ((List Int)) :=
 (aV (uk p0) (p0.length:Int)).bind fun s3ax =>
 (DA p0 0 s3ax).bind fun x8 =>
 (iG 8 [] x8).bind fun _ =>
 some x8
def fu (p0:Int) (p1:(List Int)):Option (an) :=
 (gA p1).bind fun r1 =>
 if ((r1.length:Int)==0) then
  some (an.mk 0 ([]))
 else
  some (an.mk p0 r1)
def vn:(Int×(List Int))→Option ((Int×(List Int))⊕(((List Int))))
 | (s0b,l4b) =>
  if (s0b != 0) then
   (vG .i64 s0b 1048576).bind fun x17 =>
   if decide (x17<0) then
    (iG 8 l4b [IntKind.i64.wrap (0-x17)]).bind fun x20 =>
    (yL .i64 s0b 1048576).bind fun x22 =>
    some (.inl (x22,x20))
   else
    (iG 8 l4b [x17]).bind fun x24 =>
    (yL .i64 s0b 1048576).bind fun x26 =>
    some (.inl (x26,x24))
  else
   some (.inr l4b)
def rS (p0:Int):Option (an) :=
 if (p0==0) then
  some (an.mk 0 ([]))
 else
  (if decide (p0<0) then
   some (-1)
  else
   some 1).bind fun s3j1 =>
  (aV (vn) (p0,[])).bind fun l4bx =>
  (fu s3j1 l4bx).bind fun r28 =>
  some r28
def nX (p0:an):(Int)→Option ((Int)⊕((Unit)⊕(Bool)))
 | s3a =>
  if decide (s3a<(p0.aa.length:Int)) then
   (P.idx p0.aa s3a).bind fun x7 =>
   if decide (x7<0) then
    some (.inr (.inr false))
   else
    if decide (x7≥1048576) then
     some (.inr (.inr false))
    else
     some (.inl (IntKind.i64.wrap (s3a+1)))
  else
   some (.inr (.inl ()))
def dm (p0:an):Option (Bool) :=
 (aV (nX p0) 0).bind fun q=>match q with
 | (.inl _) =>
  (if decide (p0.ag<(-1)) then
   some true
  else
   if decide (p0.ag>1) then
    some true
   else
    some (!(((p0.aa.length:Int)==0)==(p0.ag==0)))).bind fun s44j2 =>
  if s44j2 then
   some false
  else
   if ((p0.aa.length:Int)==0) then
    some true
   else
    (P.idx p0.aa (IntKind.i64.wrap ((p0.aa.length:Int)-1))).bind fun x13 =>
    some (x13 != 0)
 | (.inr ra) =>
  some ra
def pM (p0:an):Option (an) :=
 (dm p0).bind fun r1 =>
 if (!r1) then
  some (an.mk 0 ([]))
 else
  (fu (IntKind.i64.wrap (0-p0.ag)) p0.aa).bind fun r3 =>
  some r3
def gh (p0:(List Int)) (p1:Int):Option (Int) :=
 if decide (p1<(p0.length:Int)) then
  (P.idx p0 p1).bind fun x2 =>
  some x2
 else
  some 0
def n0 (p0:(List Int)) (p1:(List Int)) (s6a:Int):(Int×Int×(List Int))→Option ((Int×Int×(List Int))⊕(((List Int))))
 | (s7e,s8e,l5e) =>
  (if decide (s8e<(p1.length:Int)) then
   some true
  else
   some (decide (s7e>0))).bind fun s29j7 =>
  if s29j7 then
   (P.idx l5e (IntKind.i64.wrap (s6a+s8e))).bind fun x43 =>
   (P.idx p0 s6a).bind fun x44 =>
   (gh p1 s8e).bind fun r45 =>
   (vG .i64 (IntKind.i64.wrap ((IntKind.i64.wrap (x43+(IntKind.i64.wrap (x44*r45))))+s7e)) 1048576).bind fun x46 =>
   (yL .i64 (IntKind.i64.wrap ((IntKind.i64.wrap (x43+(IntKind.i64.wrap (x44*r45))))+s7e)) 1048576).bind fun x49 =>
   some (.inl (x49,IntKind.i64.wrap (s8e+1),(l5e.set (IntKind.i64.wrap (s6a+s8e)).toNat x46)))
  else
   some (.inr l5e)
def nZ (p0:(List Int)) (p1:(List Int)):(Int×(List Int))→Option ((Int×(List Int))⊕(((List Int))))
 | (s6a,l5a) =>
  if decide (s6a<(p0.length:Int)) then
   (aV (n0 p0 p1 s6a) (0,0,l5a)).bind fun l5ex =>
   some (.inl (IntKind.i64.wrap (s6a+1),l5ex))
  else
   some (.inr l5a)
def jz (p0:(List Int)) (p1:(List Int)):Option ((List Int)) :=
 (Ir 8 (IntKind.i64.wrap ((p0.length:Int)+(p1.length:Int))) (IntKind.i64.wrap ((p0.length:Int)+(p1.length:Int))) 0).bind fun x1 =>
 (aV (nZ p0 p1) (0,x1)).bind fun l5ax =>
 (gA l5ax).bind fun r52 =>
 some r52
def pN (p0:(List Int)) (p1:(List Int)):(Int)→Option ((Int)⊕((Unit)⊕(Bool)))
 | s5a =>
  if decide (s5a≥0) then
   (gh p0 s5a).bind fun r7 =>
   (gh p1 s5a).bind fun r8 =>
   if (r7 != r8) then
    some (.inr (.inr (decide (r7<r8))))
   else
    some (.inl (IntKind.i64.wrap (s5a-1)))
  else
   some (.inr (.inl ()))
def mI (p0:(List Int)) (p1:(List Int)):Option (Bool) :=
 (aV (pN p0 p1) (IntKind.i64.wrap ((if (p1.length:Int)>(p0.length:Int) then (p1.length:Int) else (p0.length:Int))-1))).bind fun q=>match q with
 | (.inl _) =>
  some false
 | (.inr ra) =>
  some ra
def nY (p0:(List Int)) (p1:(List Int)):(Int×Int×(List Int))→Option ((Int×Int×(List Int))⊕(((List Int))))
 | (s6a,s7a,l5a) =>
  if decide (s7a<(p0.length:Int)) then
   (P.idx p0 s7a).bind fun x11 =>
   (gh p1 s7a).bind fun r12 =>
   if decide ((IntKind.i64.wrap ((IntKind.i64.wrap (x11-r12))-s6a))<0) then
    (iG 8 l5a [IntKind.i64.wrap ((IntKind.i64.wrap ((IntKind.i64.wrap (x11-r12))-s6a))+1048576)]).bind fun x14 =>
    some (.inl (1,IntKind.i64.wrap (s7a+1),x14))
   else
    (iG 8 l5a [IntKind.i64.wrap ((IntKind.i64.wrap (x11-r12))-s6a)]).bind fun x16 =>
    some (.inl (0,IntKind.i64.wrap (s7a+1),x16))
  else
   some (.inr l5a)
def ky (p0:(List Int)) (p1:(List Int)):Option ((List Int)) :=
 (aV (nY p0 p1) (0,0,[])).bind fun l5ax =>
 (gA l5ax).bind fun r18 =>
 some r18
def mK (p1:(List Int)) (r34:(List Int)):(Int×Int)→Option ((Int×Int)⊕((Int)))
 | (s9c,s10c) =>
  if decide ((IntKind.i64.wrap (s10c-s9c))>1) then
   (yL .i64 (IntKind.i64.wrap (s9c+s10c)) 2).bind fun x44 =>
   (jz p1 ([x44])).bind fun r47 =>
   (mI r34 r47).bind fun r48 =>
   if r48 then
    some (.inl (s9c,x44))
   else
    some (.inl (x44,s10c))
  else
   some (.inr s9c)
def pO (p0:(List Int)) (p1:(List Int)):((List Int)×Int×(List Int))→Option (((List Int)×Int×(List Int))⊕(((List Int)×(List Int))))
 | (s7a,s8a,l6a) =>
  if decide (s8a≥0) then
   (P.idx p0 s8a).bind fun x31 =>
   (iG 8 [x31] s7a).bind fun x32 =>
   (gA x32).bind fun r34 =>
   (aV (mK p1 r34) (0,1048576)).bind fun s9cx =>
   (P.idx l6a s8a).bind fun x50 =>
   (gA ([s9cx])).bind fun r53 =>
   (jz p1 r53).bind fun r54 =>
   (ky r34 r54).bind fun r55 =>
   some (.inl (r55,IntKind.i64.wrap (s8a-1),(l6a.set (s8a).toNat s9cx)))
  else
   some (.inr (s7a,l6a))
def mJ (p0:(List Int)) (p1:(List Int)):Option ((List Int)×(List Int)) :=
 (Ir 8 (p0.length:Int) (p0.length:Int) 0).bind fun x1 =>
 (aV (pO p0 p1) ([],IntKind.i64.wrap ((p0.length:Int)-1),x1)).bind fun q=>match q with
 | (s7ax,l6ax) =>
  (gA l6ax).bind fun r56 =>
  some (r56,s7ax)
def oR:((List Int)×(List Int))→Option (((List Int)×(List Int))⊕(((List Int))))
 | (s6b,s7b) =>
  if decide ((s7b.length:Int)>0) then
   (mJ s6b s7b).bind fun r8 =>
   some (.inl (s7b,r8.2))
  else
   some (.inr s6b)
def nW (p0:an) (p1:an):Option (an×Int) :=
 (dm p0).bind fun r1 =>
 (if (!r1) then
  some true
 else
  (dm p1).bind fun r11 =>
  some (!r11)).bind fun s17j1 =>
 if s17j1 then
  some ((an.mk 0 ([])),1)
 else
  (aV (oR) (p0.aa,p1.aa)).bind fun s6bx =>
  (fu 1 s6bx).bind fun r9 =>
  some (r9,0)
def Al (p0:(List Int)) (p1:(List Int)):(Int×Int×(List Int))→Option ((Int×Int×(List Int))⊕(((List Int))))
 | (s6a,s7a,l5a) =>
  (if decide (s7a<(p0.length:Int)) then
   some true
  else
   if decide (s7a<(p1.length:Int)) then
    some true
   else
    some (decide (s6a>0))).bind fun s22j3 =>
  if s22j3 then
   (gh p0 s7a).bind fun r16 =>
   (gh p1 s7a).bind fun r17 =>
   (vG .i64 (IntKind.i64.wrap ((IntKind.i64.wrap (r16+r17))+s6a)) 1048576).bind fun x18 =>
   (iG 8 l5a [x18]).bind fun x20 =>
   (yL .i64 (IntKind.i64.wrap ((IntKind.i64.wrap (r16+r17))+s6a)) 1048576).bind fun x22 =>
   some (.inl (x22,IntKind.i64.wrap (s7a+1),x20))
  else
   some (.inr l5a)
def uj (p0:(List Int)) (p1:(List Int)):Option ((List Int)) :=
 (aV (Al p0 p1) (0,0,[])).bind fun l5ax =>
 (gA l5ax).bind fun r26 =>
 some r26
def mo (p0:an) (p1:an):Option (an×an×Int) :=
 (dm p0).bind fun r1 =>
 (if (!r1) then
  some true
 else
  (dm p1).bind fun r17 =>
  some (!r17)).bind fun s16j1 =>
 if s16j1 then
  some ((an.mk 0 ([])),(an.mk 0 ([])),1)
 else
  if (p1.ag==0) then
   some ((an.mk 0 ([])),(an.mk 0 ([])),15)
  else
   (mJ p0.aa p1.aa).bind fun r5 =>
   (if decide ((IntKind.i64.wrap (p0.ag*p1.ag))≥0) then
    some true
   else
    some ((r5.2.length:Int)==0)).bind fun s42j2 =>
   if s42j2 then
    (fu (IntKind.i64.wrap (p0.ag*p1.ag)) r5.1).bind fun r8 =>
    (fu p0.ag r5.2).bind fun r9 =>
    some (r8,r9,0)
   else
    (uj r5.1 ([1])).bind fun r11 =>
    (fu (-1) r11).bind fun r12 =>
    (ky p1.aa r5.2).bind fun r13 =>
    (fu p1.ag r13).bind fun r14 =>
    some (r12,r14,0)
def rT (p0:an) (p1:an):Option (aF×Int) :=
 (dm p0).bind fun r1 =>
 (if (!r1) then
  some true
 else
  (dm p1).bind fun r13 =>
  some (!r13)).bind fun s21j1 =>
 if s21j1 then
  some ((aF.mk (an.mk 0 ([])) (an.mk 0 ([]))),1)
 else
  if (p1.ag==0) then
   some ((aF.mk (an.mk 0 ([])) (an.mk 0 ([]))),15)
  else
   (if decide (p1.ag<0) then
    (pM p0).bind fun r10 =>
    (pM p1).bind fun r11 =>
    some (r10.ag,r10.aa,r11.ag,r11.aa)
   else
    some (p0.ag,p0.aa,p1.ag,p1.aa)).bind fun q=>match q with
   | (r2_0j2,r2_1j2,r3_0j2,r3_1j2) =>
    (nW (an.mk r2_0j2 r2_1j2) (an.mk r3_0j2 r3_1j2)).bind fun r6 =>
    (mo (an.mk r2_0j2 r2_1j2) r6.1).bind fun r7 =>
    (mo (an.mk r3_0j2 r3_1j2) r6.1).bind fun r8 =>
    some ((aF.mk r7.1 r8.1),0)
def w6 (p0:Int) (p1:Int):Option (aF×Int) :=
 (rS p0).bind fun r1 =>
 (rS p1).bind fun r2 =>
 (rT r1 r2).bind fun r3 =>
 some (r3.1,r3.2)
def n5 (p0:Int):Option (aF) :=
 (w6 p0 1).bind fun r1 =>
 some r1.1
def fe (p0:Int) (p1:Int):Option (bK) :=
 (n5 p0).bind fun r1 =>
 (n5 p1).bind fun r2 =>
 some (bK.mk r1 r2)
def nw (p0:an):(Int)→Option ((Int)⊕((Unit)⊕(Bool)))
 | s12a =>
  if decide (s12a<(p0.aa.length:Int)) then
   (P.idx p0.aa s12a).bind fun x7 =>
   if decide (x7<0) then
    some (.inr (.inr false))
   else
    if decide (x7>1048575) then
     some (.inr (.inr false))
    else
     some (.inl (IntKind.i64.wrap (s12a+1)))
  else
   some (.inr (.inl ()))
def cA (p0:an):Option (Bool) :=
 (aV (nw p0) 0).bind fun q=>match q with
 | (.inl _) =>
  if ((p0.aa.length:Int)==0) then
   some (p0.ag==0)
  else
   if (p0.ag==1) then
    (P.idx p0.aa (IntKind.i64.wrap ((p0.aa.length:Int)-1))).bind fun x12 =>
    some (x12 != 0)
   else
    if (p0.ag==(-1)) then
     (P.idx p0.aa (IntKind.i64.wrap ((p0.aa.length:Int)-1))).bind fun x14 =>
     some (x14 != 0)
    else
     some false
 | (.inr ra) =>
  some ra
def eg (p0:Bool) (p1:an):Option (an×Int) :=
 if (!p0) then
  some ((an.mk 0 ([])),1)
 else
  some (p1,0)
def jt (p0:Int):Option (Bool) :=
 some (p0 != p0)
def gn (p0:Int) (p1:Int):Option (Int) :=
 (jt p0).bind fun r1 =>
 (jt p1).bind fun r2 =>
 if r1 then
  if r2 then
   some 0
  else
   some (-1)
 else
  if r2 then
   some 1
  else
   if decide (p0<p1) then
    some (-1)
   else
    if decide (p0>p1) then
     some 1
    else
     some 0
def kN (p0:(List Int)) (p1:(List Int)):(Int)→Option ((Int)⊕((Unit)⊕(Int)))
 | s5a =>
  if decide (s5a≥0) then
   (P.idx p0 s5a).bind fun x10 =>
   (P.idx p1 s5a).bind fun x11 =>
   if (x10 != x11) then
    (gn x10 x11).bind fun r13 =>
    some (.inr (.inr r13))
   else
    some (.inl (IntKind.i64.wrap (s5a-1)))
  else
   some (.inr (.inl ()))
def fb (p0:(List Int)) (p1:(List Int)):Option (Int) :=
 if ((p0.length:Int) != (p1.length:Int)) then
  (gn (p0.length:Int) (p1.length:Int)).bind fun r2 =>
  some r2
 else
  (aV (kN p0 p1) (IntKind.i64.wrap ((p0.length:Int)-1))).bind fun q=>match q with
  | (.inl _) =>
   some 0
  | (.inr ra) =>
   some ra
def kv (p0:(List Int)):(Int)→Option ((Int)⊕((Int)))
 | s3a =>
  if decide (s3a>0) then
   (P.idx p0 (IntKind.i64.wrap (s3a-1))).bind fun x6 =>
   if (x6==0) then
    some (.inl (IntKind.i64.wrap (s3a-1)))
   else
    some (.inr s3a)
  else
   some (.inr s3a)
def dL (p0:(List Int)):Option ((List Int)) :=
 (aV (kv p0) (p0.length:Int)).bind fun s3ax =>
 (DA p0 0 s3ax).bind fun x8 =>
 some x8
def ny (p0:(List Int)) (p1:Int):(Int×Int×(List Int))→Option ((Int×Int×(List Int))⊕((Int×(List Int))))
 | (s7a,s8a,l6a) =>
  if decide (s8a≥0) then
   (EH .i64 s7a 20).bind fun x15 =>
   (P.idx p0 s8a).bind fun x17 =>
   (yL .i64 (jK .or .i64 x15 x17) p1).bind fun x18 =>
   (P.idx l6a s8a).bind fun x20 =>
   (vG .i64 (jK .or .i64 x15 x17) p1).bind fun x22 =>
   some (.inl (x22,IntKind.i64.wrap (s8a-1),(l6a.set (s8a).toNat x18)))
  else
   some (.inr (s7a,l6a))
def ku (p0:(List Int)) (p1:Int):Option ((List Int)×Int) :=
 (Ir 8 (p0.length:Int) (p0.length:Int) 0).bind fun x1 =>
 (aV (ny p0 p1) (0,IntKind.i64.wrap ((p0.length:Int)-1),x1)).bind fun q=>match q with
 | (s7ax,l6ax) =>
  (dL l6ax).bind fun r24 =>
  some (r24,s7ax)
def rf (p1:(List Int)) (s20a:Int) (x22:Int):(Int×Int×(List Int))→Option ((Int×Int×(List Int))⊕((Int×(List Int))))
 | (s8c,s27c,l5c) =>
  if decide (s27c<(p1.length:Int)) then
   (P.idx p1 s27c).bind fun x31 =>
   (P.idx l5c (IntKind.i64.wrap (s20a+s27c))).bind fun x32 =>
   (xa .i64 (IntKind.i64.wrap ((IntKind.i64.wrap (x32+(IntKind.i64.wrap (x22*x31))))+s8c)) 20).bind fun x33 =>
   some (.inl (x33,IntKind.i64.wrap (s27c+1),(l5c.set (IntKind.i64.wrap (s20a+s27c)).toNat (jK .and .i64 (IntKind.i64.wrap ((IntKind.i64.wrap (x32+(IntKind.i64.wrap (x22*x31))))+s8c)) 1048575))))
  else
   some (.inr (s8c,l5c))
def re (p0:(List Int)) (p1:(List Int)):(Int×(List Int))→Option ((Int×(List Int))⊕(((List Int))))
 | (s20a,l5a) =>
  if decide (s20a<(p0.length:Int)) then
   (P.idx p0 s20a).bind fun x22 =>
   (aV (rf p1 s20a x22) (0,0,l5a)).bind fun q=>match q with
   | (s8cx,l5cx) =>
    (P.idx l5cx (IntKind.i64.wrap (s20a+(p1.length:Int)))).bind fun x36 =>
    some (.inl (IntKind.i64.wrap (s20a+1),(l5cx.set (IntKind.i64.wrap (s20a+(p1.length:Int))).toNat (IntKind.i64.wrap (x36+s8cx)))))
  else
   some (.inr l5a)
def nx (p0:(List Int)) (p1:(List Int)):Option ((List Int)) :=
 (Ir 8 (IntKind.i64.wrap ((p0.length:Int)+(p1.length:Int))) (IntKind.i64.wrap ((p0.length:Int)+(p1.length:Int))) 0).bind fun x1 =>
 (aV (re p0 p1) (0,x1)).bind fun l5ax =>
 (dL l5ax).bind fun r39 =>
 some r39
def jY (p0:(List Int)) (p1:(List Int)) (p2:Int):(Int×Int×(List Int))→Option ((Int×Int×(List Int))⊕((Int×(List Int))))
 | (s7a,s14a,l0a) =>
  if decide (s14a<((p0).length:Int)) then
   (P.idx l0a s14a).bind fun x11 =>
   (if decide (s14a<(p1.length:Int)) then
    (P.idx p1 s14a).bind fun x17 =>
    some (IntKind.i64.wrap ((IntKind.i64.wrap (x11-s7a))-(IntKind.i64.wrap (p2*x17))))
   else
    some (IntKind.i64.wrap (x11-s7a))).bind fun s9j3 =>
   (xa .i64 s9j3 20).bind fun x14 =>
   some (.inl (IntKind.i64.wrap (0-x14),IntKind.i64.wrap (s14a+1),(l0a.set (s14a).toNat (jK .and .i64 s9j3 1048575))))
  else
   some (.inr (s7a,l0a))
def jZ (p1:(List Int)) (l0ax:(List Int)):(Int×Int×(List Int))→Option ((Int×Int×(List Int))⊕(((List Int))))
 | (s10d,s49d,l0d) =>
  if decide (s49d<((l0ax).length:Int)) then
   (P.idx l0d s49d).bind fun x29 =>
   (if decide (s49d<(p1.length:Int)) then
    (P.idx p1 s49d).bind fun x35 =>
    some (IntKind.i64.wrap ((IntKind.i64.wrap (s10d+x29))+x35))
   else
    some (IntKind.i64.wrap (s10d+x29))).bind fun s10j6 =>
   (xa .i64 s10j6 20).bind fun x32 =>
   some (.inl (x32,IntKind.i64.wrap (s49d+1),(l0d.set (s49d).toNat (jK .and .i64 s10j6 1048575))))
  else
   some (.inr l0d)
def ox (p0:(List Int)) (p1:(List Int)) (p2:Int):Option ((List Int)×(Int)) :=
 (aV (jY p0 p1 p2) (0,0,p0)).bind fun q=>match q with
 | (s7ax,l0ax) =>
  if (s7ax==0) then
   some (l0ax,p2)
  else
   (aV (jZ p1 l0ax) (0,0,l0ax)).bind fun l0dx =>
   some (l0dx,IntKind.i64.wrap (p2-1))
def fv (p0:(List Int)) (p1:(List Int)) (p2:Int):Option ((List Int)×(Int)):=(ox p0 p1 p2).bind fun r=>if r.1.length=p0.length then some r else none
theorem yY {p0:(List Int)} {p1:(List Int)} {p2:Int} {r:(List Int)×(Int)} (h:fv p0 p1 p2=some r):r.1.length=p0.length:=by
 unfold fv at h
 obtain⟨q,hq,h⟩:=ae h
 split at h
 ·cases h;assumption
 ·cases h
def qZ (p1:(List Int)):(Int)→Option ((Int)⊕((Int)))
 | s8a =>
  (P.idx p1 (IntKind.i64.wrap ((p1.length:Int)-1))).bind fun x12 =>
  if decide ((IntKind.i64.wrap (x12*s8a))<524288) then
   some (.inl (IntKind.i64.wrap (s8a*2)))
  else
   some (.inr s8a)
def q9 (r19:(List Int)) (s13c:Int) (l9c:(List Int)) (x64:Int):(Int×Int)→Option ((Int×Int)⊕((Int)))
 | (s15g,s16g) =>
  (if decide (s15g≥1048576) then
   some true
  else
   if decide (s16g<1048576) then
    (P.idx r19 (IntKind.i64.wrap (((r19).length:Int)-2))).bind fun x83 =>
    (EH .i64 s16g 20).bind fun x84 =>
    (P.idx l9c (IntKind.i64.wrap ((IntKind.i64.wrap (s13c+((r19).length:Int)))-2))).bind fun x86 =>
    some (decide ((IntKind.i64.wrap (s15g*x83))>(jK .or .i64 x84 x86)))
   else
    some false).bind fun s137j9 =>
  if s137j9 then
   some (.inl (IntKind.i64.wrap (s15g-1),IntKind.i64.wrap (s16g+x64)))
  else
   some (.inr s15g)
def q8 (r19:(List Int)):(Int×(List Int)×(List Int))→Option ((Int×(List Int)×(List Int))⊕(((List Int)×(List Int))))
 | (s13c,l9c,l12c) =>
  if decide (s13c≥0) then
   (P.idx l9c (IntKind.i64.wrap (s13c+((r19).length:Int)))).bind fun x60 =>
   (EH .i64 x60 20).bind fun x61 =>
   (P.idx l9c (IntKind.i64.wrap ((IntKind.i64.wrap (s13c+((r19).length:Int)))-1))).bind fun x63 =>
   (P.idx r19 (IntKind.i64.wrap (((r19).length:Int)-1))).bind fun x64 =>
   (yL .i64 (jK .or .i64 x61 x63) x64).bind fun x65 =>
   (vG .i64 (jK .or .i64 x61 x63) x64).bind fun x67 =>
   (aV (q9 r19 s13c l9c x64) (x65,x67)).bind fun s15gx =>
   (DA l9c s13c (IntKind.i64.wrap ((IntKind.i64.wrap (s13c+((r19).length:Int)))+1))).bind fun x87 =>
   (fv x87 r19 s15gx).bind fun r90 =>
   (P.idx l12c s13c).bind fun x92 =>
   some (.inl (IntKind.i64.wrap (s13c-1),(l9c.take (s13c).toNat++(r90.1++l9c.drop (IntKind.i64.wrap ((IntKind.i64.wrap (s13c+((r19).length:Int)))+1)).toNat)),(l12c.set (s13c).toNat r90.2)))
  else
   some (.inr (l9c,l12c))
def pg (p0:(List Int)) (p1:(List Int)):Option ((List Int)×(List Int)) :=
 (fb p0 p1).bind fun r1 =>
 if decide (r1<0) then
  (bk p0).bind fun r3 =>
  some ([],r3)
 else
  if ((p1.length:Int)==1) then
   (P.idx p1 0).bind fun x5 =>
   (ku p0 x5).bind fun r6 =>
   (dL ([r6.2])).bind fun r8 =>
   some (r6.1,r8)
  else
   (aV (qZ p1) 1).bind fun s8ax =>
   (nx p0 ([s8ax])).bind fun r15 =>
   (iG 8 r15 [0]).bind fun x16 =>
   (nx p1 ([s8ax])).bind fun r19 =>
   (if (((x16).length:Int)==(p0.length:Int)) then
    (iG 8 x16 [0]).bind fun x98 =>
    some x98
   else
    some x16).bind fun l9j2 =>
   (Ir 8 (IntKind.i64.wrap (((l9j2).length:Int)-((r19).length:Int))) (IntKind.i64.wrap (((l9j2).length:Int)-((r19).length:Int))) 0).bind fun x21 =>
   (aV (q8 r19) (IntKind.i64.wrap (((x21).length:Int)-1),l9j2,x21)).bind fun q=>match q with
   | (l9cx,l12cx) =>
    (dL l9cx).bind fun r94 =>
    (ku r94 s8ax).bind fun r95 =>
    (dL l12cx).bind fun r96 =>
    some (r96,r95.1)
def cB (p0:Int) (p1:(List Int)):Option (an) :=
 (dL p1).bind fun r1 =>
 if ((r1.length:Int)==0) then
  some (an.mk 0 ([]))
 else
  some (an.mk p0 r1)
def ov:((List Int)×(List Int))→Option (((List Int)×(List Int))⊕(((List Int))))
 | (s6b,s7b) =>
  if decide ((s7b.length:Int)>0) then
   (pg s6b s7b).bind fun r11 =>
   some (.inl (s7b,r11.2))
  else
   some (.inr s6b)
def nt (p0:an) (p1:an):Option (an×Int) :=
 (cA p0).bind fun r1 =>
 (if (!r1) then
  some true
 else
  (cA p1).bind fun r16 =>
  some (!r16)).bind fun s17j1 =>
 if s17j1 then
  (eg false (an.mk 0 ([]))).bind fun r5 =>
  some (r5.1,r5.2)
 else
  (bk p0.aa).bind fun r6 =>
  (aV (ov) (r6,p1.aa)).bind fun s6bx =>
  (bk s6bx).bind fun r12 =>
  (cB 1 r12).bind fun r13 =>
  (eg true r13).bind fun r14 =>
  some (r14.1,r14.2)
def qX (p0:an):(Int×Int)→Option ((Int×Int)⊕((Int)⊕(Int×Bool)))
 | (s4b,s19b) =>
  if decide (s19b<(p0.aa.length:Int)) then
   (P.idx p0.aa s19b).bind fun x13 =>
   (if (s19b==3) then
    some (decide (x13>8))
   else
    some false).bind fun s29j4 =>
   if s29j4 then
    some (.inr (.inr (0,false)))
   else
    (EH .u64 (IntKind.u64.wrap x13) (IntKind.i64.wrap (20*s19b))).bind fun x16 =>
    some (.inl (jK .or .u64 s4b x16,IntKind.i64.wrap (s19b+1)))
  else
   some (.inr (.inl s4b))
def qW (p0:an):Option (Int×Bool) :=
 (cA p0).bind fun r1 =>
 (if (!r1) then
  some true
 else
  some (decide ((p0.aa.length:Int)>4))).bind fun s15j1 =>
 if s15j1 then
  some (0,false)
 else
  (aV (qX p0) (0,0)).bind fun q=>match q with
  | (.inl s4bx) =>
   (if decide (p0.ag<0) then
    some (decide (s4bx≤9223372036854775808))
   else
    some false).bind fun s38j5 =>
   if s38j5 then
    some (IntKind.i64.wrap (IntKind.u64.wrap (0-s4bx)),true)
   else
    if decide (p0.ag≥0) then
     if decide (s4bx<9223372036854775808) then
      some (IntKind.i64.wrap s4bx,true)
     else
      some (0,false)
    else
     some (0,false)
  | (.inr rb) =>
   some rb
def oK (p0:an):Option (Bool) :=
 (qW p0).bind fun r1 =>
 if r1.2 then
  some (r1.1==1)
 else
  some false
def eA (p0:aF):Option (Bool) :=
 (cA p0.bx).bind fun r1 =>
 (if (!r1) then
  some true
 else
  (cA p0.bt).bind fun r8 =>
  if (!r8) then
   some true
  else
   some (p0.bt.ag != 1)).bind fun s20j1 =>
 if s20j1 then
  some false
 else
  (nt p0.bx p0.bt).bind fun r4 =>
  if (r4.2==0) then
   (oK r4.1).bind fun r6 =>
   some r6
  else
   some false
def qY (p0:an) (p1:an):Option (an×Int) :=
 (cA p0).bind fun r1 =>
 (if (!r1) then
  some true
 else
  (cA p1).bind fun r10 =>
  some (!r10)).bind fun s13j1 =>
 if s13j1 then
  (eg false (an.mk 0 ([]))).bind fun r5 =>
  some (r5.1,r5.2)
 else
  (nx p0.aa p1.aa).bind fun r6 =>
  (cB (IntKind.i64.wrap (p0.ag*p1.ag)) r6).bind fun r7 =>
  (eg true r7).bind fun r8 =>
  some (r8.1,r8.2)
def dH (p0:an) (p1:an):Option (an) :=
 (qY p0 p1).bind fun r1 =>
 some r1.1
def jg (p0:an) (p1:an):Option (Int) :=
 (cA p0).bind fun r1 =>
 (if (!r1) then
  some true
 else
  (cA p1).bind fun r8 =>
  some (!r8)).bind fun s12j1 =>
 if s12j1 then
  some 0
 else
  if (p0.ag != p1.ag) then
   (gn p0.ag p1.ag).bind fun r5 =>
   some r5
  else
   (fb p0.aa p1.aa).bind fun r6 =>
   some (IntKind.i64.wrap (p0.ag*r6))
def fB (p0:aF) (p1:aF):Option (Int) :=
 (eA p0).bind fun r1 =>
 (if (!r1) then
  some true
 else
  (eA p1).bind fun r8 =>
  some (!r8)).bind fun s12j1 =>
 if s12j1 then
  some 0
 else
  (dH p0.bx p1.bt).bind fun r4 =>
  (dH p1.bx p0.bt).bind fun r5 =>
  (jg r4 r5).bind fun r6 =>
  some r6
def dZ (p0:bK):Option (Bool) :=
 (eA p0.aH).bind fun r1 =>
 if r1 then
  (eA p0.az).bind fun r3 =>
  if r3 then
   (fB p0.aH p0.az).bind fun r5 =>
   some (decide (r5≤0))
  else
   some false
 else
  some false
def iL (p0:aB):Option (Bool) :=
 (dZ p0.bP).bind fun r1 =>
 some (!r1)
def iI (p0:Int):Option (Int) :=
 (if decide (p0≥4294967296) then
  (xa .u64 p0 32).bind fun x14 =>
  some (x14,32)
 else
  some (p0,0)).bind fun q=>match q with
 | (s0j1,s2j1) =>
  (if decide (s0j1≥65536) then
   (xa .u64 s0j1 16).bind fun x11 =>
   some (x11,IntKind.i64.wrap (s2j1+16))
  else
   some (s0j1,s2j1)).bind fun q=>match q with
  | (s0j2,s2j2) =>
   if decide (s0j2≥256) then
    (xa .u64 s0j2 8).bind fun x4 =>
    (P.VH XZ (IntKind.u8.wrap x4)).bind fun x6 =>
    some (IntKind.i64.wrap ((IntKind.i64.wrap (s2j2+8))+(IntKind.i64.wrap x6)))
   else
    (P.VH XZ (IntKind.u8.wrap s0j2)).bind fun x8 =>
    some (IntKind.i64.wrap (s2j2+(IntKind.i64.wrap x8)))
def jP (p0:Int):Option (Int) :=
 (iI p0).bind fun r1 =>
 some r1
def tv (p0:Int) (p1:Int):Option (Bool) :=
 (jt p0).bind fun r1 =>
 if r1 then
  (jt p1).bind fun r3 =>
  if (!r3) then
   some true
  else
   some (decide (p0<p1))
 else
  some (decide (p0<p1))
def gE (p1:Int):(Int×(List Int))→Option ((Int×(List Int))⊕(((List Int))))
 | (s7e,l0e) =>
  (if decide (s7e>p1) then
   (P.idx l0e s7e).bind fun x47 =>
   (P.idx l0e (IntKind.i64.wrap (s7e-1))).bind fun x48 =>
   (tv x47 x48).bind fun r49 =>
   some r49
  else
   some false).bind fun s30j7 =>
  if s30j7 then
   (P.idx l0e (IntKind.i64.wrap (s7e-1))).bind fun x41 =>
   (P.idx l0e s7e).bind fun x42 =>
   (P.idx (l0e.set (s7e).toNat x41) (IntKind.i64.wrap (s7e-1))).bind fun x44 =>
   some (.inl (IntKind.i64.wrap (s7e-1),((l0e.set (s7e).toNat x41).set (IntKind.i64.wrap (s7e-1)).toNat x42)))
  else
   some (.inr l0e)
def gD (p1:Int) (p2:Int):(Int×(List Int))→Option ((Int×(List Int))⊕(((List Int))))
 | (s6a,l0a) =>
  if decide (s6a<p2) then
   (aV (gE p1) (s6a,l0a)).bind fun l0ex =>
   some (.inl (IntKind.i64.wrap (s6a+1),l0ex))
  else
   some (.inr l0a)
def gL (p0:(List Int)) (p1:Int) (p2:Int):Option ((List Int)×(Unit)) :=
 (aV (gD p1 p2) (IntKind.i64.wrap (p1+1),p0)).bind fun l0ax =>
 some (l0ax,())
def bV (p0:(List Int)) (p1:Int) (p2:Int):Option ((List Int)×(Unit)):=(gL p0 p1 p2).bind fun r=>if r.1.length=p0.length then some r else none
theorem kF {p0:(List Int)} {p1:Int} {p2:Int} {r:(List Int)×(Unit)} (h:bV p0 p1 p2=some r):r.1.length=p0.length:=by
 unfold bV at h
 obtain⟨q,hq,h⟩:=ae h
 split at h
 ·cases h;assumption
 ·cases h
def jl (p0:(List Int)) (p1:Int) (p2:Int) (p3:Int):(Unit)→Option ((Unit)⊕(((List Int)×(Unit))))
 | _ =>
  if decide ((IntKind.i64.wrap (p2-p1))≤12) then
   (bV p0 p1 p2).bind fun r9 =>
   some (.inr (r9.1,()))
  else
   if (p3==0) then
    none
   else
    none
def jC (p0:(List Int)) (p1:Int) (p2:Int) (p3:Int):Option ((List Int)×(Unit)) :=
 (aV (jl p0 p1 p2 p3) ()).bind fun ra =>
 some ra
def cF (p0:(List Int)) (p1:Int) (p2:Int) (p3:Int):Option ((List Int)×(Unit)):=(jC p0 p1 p2 p3).bind fun r=>if r.1.length=p0.length then some r else none
theorem nO {p0:(List Int)} {p1:Int} {p2:Int} {p3:Int} {r:(List Int)×(Unit)} (h:cF p0 p1 p2 p3=some r):r.1.length=p0.length:=by
 unfold cF at h
 obtain⟨q,hq,h⟩:=ae h
 split at h
 ·cases h;assumption
 ·cases h
def sM (p0:(List Int)):Option ((List Int)×(Unit)) :=
 (jP (IntKind.u64.wrap ((p0).length:Int))).bind fun r1 =>
 (cF p0 0 ((p0).length:Int) r1).bind fun r3 =>
 some (r3.1,())
def p7 (p0:(List Int)):Option ((List Int)×(Unit)):=(sM p0).bind fun r=>if r.1.length=p0.length then some r else none
def kf (p0:(List Int)):Option ((List Int)×Unit):=if p0.length<4611686018427387904 then some (gF p0,()) else none
theorem CI {p0:(List Int)} {r:(List Int)×Unit} (h:kf p0=some r):r.1.length=p0.length:=by
 unfold kf at h
 split at h
 ·cases h;exact fP p0
 ·cases h
def jk (p0:(List Int)):Option (List Int):=OO p0
def gj (p0:(List Int)):Option (Bool) :=
 (bk p0).bind fun r1 =>
 (kf r1).bind fun r3 =>
 (jk r3.1).bind fun r6 =>
 some (decide (((r6).length:Int)<(p0.length:Int)))
def ee (p0:aN) (p1:Int):Option (Bool) :=
 some (p0.ct==p1)
def lz (p0:ax) (p1:Int):Option (Bool) :=
 if decide (p1≥0) then
  some (decide (p1<(p0.ah.length:Int)))
 else
  some false
def jV (p0:ax) (p1:(List Int)):(Int)→Option ((Int)⊕((Unit)⊕(Bool)))
 | s18b =>
  if decide (s18b<(p1.length:Int)) then
   (P.idx p1 s18b).bind fun x15 =>
   (lz p0 x15).bind fun r16 =>
   if (!r16) then
    some (.inr (.inr false))
   else
    if decide (s18b>0) then
     (P.idx p1 (IntKind.i64.wrap (s18b-1))).bind fun x19 =>
     (P.idx p0.ah x19).bind fun x20 =>
     if (x20.bn != x15) then
      if (x20.bg != x15) then
       some (.inr (.inr false))
      else
       some (.inl (IntKind.i64.wrap (s18b+1)))
     else
      some (.inl (IntKind.i64.wrap (s18b+1)))
    else
     some (.inl (IntKind.i64.wrap (s18b+1)))
  else
   some (.inr (.inl ()))
def ki (p0:ax) (p1:(List Int)):Option (Bool) :=
 (du p0).bind fun r1 =>
 (if (!r1) then
  some true
 else
  some ((p1.length:Int)==0)).bind fun s15j1 =>
 if s15j1 then
  some false
 else
  (aV (jV p0 p1) 0).bind fun q=>match q with
  | (.inl _) =>
   some true
  | (.inr rb) =>
   some rb
def fL (p0:al):Option (Bool) :=
 some (p0.bn==(-1))
def ij (p0:ax) (p1:Int) (p2:ByteArray) (p3:Int) (p4:Int):Option (Bool) :=
 (du p0).bind fun r1 =>
 (if (!r1) then
  some true
 else
  (eD p1 (IntKind.i64.wrap ((p0.ah.length:Int)-1))).bind fun r8 =>
  some (!r8)).bind fun s23j1 =>
 if s23j1 then
  some false
 else
  (P.idx p0.ah p1).bind fun x4 =>
  if (x4.cI.toList==p2.toList) then
   if (x4.aJ==p3) then
    some (x4.aM==p4)
   else
    some false
  else
   some false
def kg (p0:ax) (p1:(List Int)) (p2:Int) (p3:Int) (p4:ByteArray) (p5:Int) (p6:Int):Option (Bool) :=
 (ki p0 p1).bind fun r1 =>
 if (!r1) then
  some false
 else
  (P.idx p1 0).bind fun x3 =>
  (P.idx p0.ah x3).bind fun x4 =>
  (P.idx p1 (IntKind.i64.wrap ((p1.length:Int)-1))).bind fun x5 =>
  if (x4.aJ==p2) then
   if (x4.aM==p3) then
    (P.idx p0.ah x5).bind fun x8 =>
    (fL x8).bind fun r9 =>
    if r9 then
     (ij p0 x5 p4 p5 p6).bind fun r11 =>
     some r11
    else
     some false
   else
    some false
  else
   some false
def ey (p0:kc) (p1:aN):Option (Bool) :=
 if decide ((p1.dO.length:Int)>0) then
  (P.idx p1.dO 0).bind fun x2 =>
  if (x2==p0.yQ) then
   (P.idx p1.dO (IntKind.i64.wrap ((p1.dO.length:Int)-1))).bind fun x4 =>
   if (x4==p1.ct) then
    (kg p0.Vk p1.dO p0.uM p0.uL p1.cI p1.aJ p1.aM).bind fun r6 =>
    some r6
   else
    some false
  else
   some false
 else
  some false
def uE:(Int×(List Int))→Option ((Int×(List Int))⊕(((List Int))))
 | (s4b,l5b) =>
  if decide (s4b>0) then
   (iG 8 l5b [IntKind.i64.wrap (jK .and .u64 s4b 1048575)]).bind fun x9 =>
   (xa .u64 s4b 20).bind fun x11 =>
   some (.inl (x11,x9))
  else
   some (.inr l5b)
def tl (p0:Int):Option (an) :=
 (if decide (p0<0) then
  some ((-1),IntKind.u64.wrap (0-(IntKind.u64.wrap p0)))
 else
  some (1,IntKind.u64.wrap p0)).bind fun q=>match q with
 | (s3j1,s4j1) =>
  (aV (uE) (s4j1,[])).bind fun l5bx =>
  (cB s3j1 l5bx).bind fun r13 =>
  some r13
def oI (p0:Int):Option (aF) :=
 (tl p0).bind fun r1 =>
 (tl 1).bind fun r2 =>
 some (aF.mk r1 r2)
def iJ (p0:bK) (p1:aF):Option (Bool) :=
 (dZ p0).bind fun r1 =>
 if r1 then
  (eA p1).bind fun r3 =>
  if r3 then
   (fB p0.aH p1).bind fun r5 =>
   if decide (r5≤0) then
    (fB p1 p0.az).bind fun r7 =>
    some (decide (r7≤0))
   else
    some false
  else
   some false
 else
  some false
def ef (p0:aB) (p1:Int) (p2:aF):Option (Bool) :=
 if (p0.ct==p1) then
  (iJ p0.bP p2).bind fun r2 =>
  some (!r2)
 else
  some false
def ca (p0:(List aN)) (p1c0:Int):(Int)→Option ((Int)⊕((Unit)⊕(Int)))
 | s8a =>
  if decide (s8a<(p0.length:Int)) then
   (P.idx p0 s8a).bind fun x7 =>
   (ee x7 p1c0).bind fun r8 =>
   if r8 then
    some (.inr (.inr s8a))
   else
    some (.inl (IntKind.i64.wrap (s8a+1)))
  else
   some (.inr (.inl ()))
def a7 (p0:(List aN)) (p1c0:Int):Option (Int) :=
 (aV (ca p0 p1c0) 0).bind fun q=>match q with
 | (.inl _) =>
  some (-1)
 | (.inr ra) =>
  some ra
def cm (p0:(List aB)) (p1c0:Int) (p1c1:aF):(Int)→Option ((Int)⊕((Unit)⊕(Int)))
 | s8a =>
  if decide (s8a<(p0.length:Int)) then
   (P.idx p0 s8a).bind fun x7 =>
   (ef x7 p1c0 p1c1).bind fun r8 =>
   if r8 then
    some (.inr (.inr s8a))
   else
    some (.inl (IntKind.i64.wrap (s8a+1)))
  else
   some (.inr (.inl ()))
def bE (p0:(List aB)) (p1c0:Int) (p1c1:aF):Option (Int) :=
 (aV (cm p0 p1c0 p1c1) 0).bind fun q=>match q with
 | (.inl _) =>
  some (-1)
 | (.inr ra) =>
  some ra
def a6 (p0:(List aB)) (p1c0:Int) (p1c1:aF):Option (Bool) :=
 (bE p0 p1c0 p1c1).bind fun r1 =>
 some (decide (r1≥0))
def dY (p0:kc) (p1:Int) (p2:(List aN)) (p3:(List aB)):Option (Int) :=
 (a7 p2 p1).bind fun r1 =>
 if decide (r1<0) then
  some 0
 else
  (P.idx p2 r1).bind fun x3 =>
  (ey p0 x3).bind fun r4 =>
  if (!r4) then
   some 1
  else
   (oI x3.aJ).bind fun r6 =>
   (a6 p3 p1 r6).bind fun r7 =>
   if r7 then
    some 2
   else
    some (-1)
def cR (p0:(List aB)):(Int)→Option ((Int)⊕((Unit)⊕(Int)))
 | s8a =>
  if decide (s8a<(p0.length:Int)) then
   (P.idx p0 s8a).bind fun x7 =>
   (iL x7).bind fun r8 =>
   if r8 then
    some (.inr (.inr s8a))
   else
    some (.inl (IntKind.i64.wrap (s8a+1)))
  else
   some (.inr (.inl ()))
def cj (p0:(List aB)):Option (Int) :=
 (aV (cR p0) 0).bind fun q=>match q with
 | (.inl _) =>
  some (-1)
 | (.inr ra) =>
  some ra
def aG (p0:(List aB)):Option (Bool) :=
 (cj p0).bind fun r1 =>
 some (decide (r1≥0))
def ew (p0:ax) (p1:Int) (p2:Int) (p3:Int) (p4:(List Int)) (p5:(List aN)) (p6:(List aB)):(Int×(List bp))→Option ((Int×(List bp))⊕(((List bp))))
 | (s49b,l17b) =>
  if decide (s49b<(p4.length:Int)) then
   (P.idx p4 s49b).bind fun x16 =>
   (dY (kc.mk p0 p1 p2 p3) x16 p5 p6).bind fun r17 =>
   if (r17 != (-1)) then
    (iG 16 l17b [(bp.mk x16 r17)]).bind fun x19 =>
    some (.inl (IntKind.i64.wrap (s49b+1),x19))
   else
    some (.inl (IntKind.i64.wrap (s49b+1),l17b))
  else
   some (.inr l17b)
def eK (p0:ax) (p1:Int) (p2:Int) (p3:Int) (p4:(List Int)) (p5:(List aN)) (p6:(List aB)):Option ((List bp)×Int) :=
 (du p0).bind fun r1 =>
 (if (!r1) then
  some true
 else
  if decide (p1<0) then
   some true
  else
   some (decide (p1≥(p0.ah.length:Int)))).bind fun s21j1 =>
 if s21j1 then
  some ([],1)
 else
  (aG p6).bind fun r4 =>
  if r4 then
   some ([],1)
  else
   (gj p4).bind fun r6 =>
   if r6 then
    some ([],5)
   else
    (aV (ew p0 p1 p2 p3 p4 p5 p6) (0,[])).bind fun l17bx =>
    some (l17bx,0)
def mM (p0:(List bp)) (p1:(List bp)):(Int)→Option ((Int)⊕((Unit)⊕(Bool)))
 | s5a =>
  if decide (s5a<(p0.length:Int)) then
   (P.idx p0 s5a).bind fun x8 =>
   (P.idx p1 s5a).bind fun x9 =>
   if (!((x8.ct==x9.ct)&&(x8.kS==x9.kS))) then
    some (.inr (.inr false))
   else
    some (.inl (IntKind.i64.wrap (s5a+1)))
  else
   some (.inr (.inl ()))
def oS (p0:(List bp)) (p1:(List bp)):Option (Bool) :=
 if ((p0.length:Int) != (p1.length:Int)) then
  some false
 else
  (aV (mM p0 p1) 0).bind fun q=>match q with
  | (.inl _) =>
   some true
  | (.inr ra) =>
   some ra
def jN (p0:ax) (p1:(List Int)) (p2:Int) (p3:(List aB)) (p4:(List bp)):Option (Bool) :=
 (eK p0 4 60 24 p1 ([(aN.mk 1 ([4,3,1]) (ByteArray.mk #[98]) p2 8)]) p3).bind fun r2 =>
 if (r2.2==0) then
  (oS r2.1 p4).bind fun r4 =>
  some r4
 else
  some false
def strconv_Itoa (p0:Int):Option ByteArray:=Ya p0
def vv (p0:(List Int)):Option ByteArray:=Ph p0
def kB (p0:(List Int)):Option (ByteArray) :=
 (vv p0).bind fun r1 =>
 some r1
def kz (p0:(List al)):Option (List al):=if p0.length≤maxLen then some p0 else none
def lT (p0:ax) (p1:al):Option (ax×Int×Int) :=
 (dD p0.ah).bind fun r1 =>
 (kz r1).bind fun r2 =>
 (iG 48 r2 [p1]).bind fun x3 =>
 some ((ax.mk x3),(p0.ah.length:Int),0)
def kj (p0:ax) (p1:ByteArray) (p2:Int) (p3:Int):Option (ax×Int×Int) :=
 (du p0).bind fun r1 =>
 (if (!r1) then
  some true
 else
  (jo (al.mk p1 p2 p3 (-1) (-1))).bind fun r7 =>
  some (!r7)).bind fun s16j1 =>
 if s16j1 then
  some ((ax.mk ([])),(-1),1)
 else
  if decide ((p0.ah.length:Int)≥2000) then
   some ((ax.mk ([])),(-1),6)
  else
   (lT p0 (al.mk p1 p2 p3 (-1) (-1))).bind fun r5 =>
   some (r5.1,r5.2.1,r5.2.2)
def jT (p0:(List Int)) (p1:Int):(Int)→Option ((Int)⊕((Unit)⊕(Bool)))
 | s22b =>
  if decide (s22b<(p0.length:Int)) then
   (P.idx p0 s22b).bind fun x9 =>
   if decide (x9<0) then
    some (.inr (.inr false))
   else
    if decide (x9≥(IntKind.i64.wrap (p1-s22b))) then
     some (.inr (.inr false))
    else
     some (.inl (IntKind.i64.wrap (s22b+1)))
  else
   some (.inr (.inl ()))
def jm (p0:(List Int)) (p1:Int):Option (Bool) :=
 (if decide (p1<0) then
  some true
 else
  if decide (p1>1099511627776) then
   some true
  else
   some (decide ((p0.length:Int)>(if 100<p1 then 100 else p1)))).bind fun s19j1 =>
 if s19j1 then
  some false
 else
  (aV (jT p0 p1) 0).bind fun q=>match q with
  | (.inl _) =>
   some true
  | (.inr rb) =>
   some rb
def jA (p1:Int) (x26:(List Int)):(Int×(List Int))→Option ((Int×(List Int))⊕(((List Int))))
 | (s53f,l8f) =>
  if decide (s53f<(x26.length:Int)) then
   (P.idx x26 s53f).bind fun x37 =>
   (P.idx l8f s53f).bind fun x38 =>
   (vG .i64 (IntKind.i64.wrap (x38+x37)) (IntKind.i64.wrap (p1-s53f))).bind fun x39 =>
   some (.inl (IntKind.i64.wrap (s53f+1),(l8f.set (s53f).toNat x39)))
  else
   some (.inr l8f)
def oa (p0:(List (List Int))) (p1:Int) (p2:Int):(Int×(List Int))→Option ((Int×(List Int))⊕(((List Int))⊕((List Int)×Int)))
 | (s37b,l8b) =>
  if decide (s37b<(p0.length:Int)) then
   (P.idx p0 s37b).bind fun x26 =>
   (if ((x26.length:Int) != p2) then
    some true
   else
    (jm x26 p1).bind fun r43 =>
    some (!r43)).bind fun s50j5 =>
   if s50j5 then
    some (.inr (.inr ([],1)))
   else
    (aV (jA p1 x26) (0,l8b)).bind fun l8fx =>
    some (.inl (IntKind.i64.wrap (s37b+1),l8fx))
  else
   some (.inr (.inl l8b))
def lQ (p0:(List (List Int))) (p1:Int) (p2:Int):Option ((List Int)×Int) :=
 (if decide (p2<0) then
  some true
 else
  if decide (p2>100) then
   some true
  else
   if decide (p1<p2) then
    some true
   else
    if decide (p1>1099511627776) then
     some true
    else
     some (decide ((p0.length:Int)>400))).bind fun s32j1 =>
 if s32j1 then
  some ([],1)
 else
  (Ir 8 p2 p2 0).bind fun x3 =>
  (aV (oa p0 p1 p2) (0,x3)).bind fun q=>match q with
  | (.inl l8bx) =>
   some (l8bx,0)
  | (.inr rb) =>
   some rb
def jS (p0:(List Int)):Option (List Int):=Be p0
def b6 (p0:(List Int)):Option (List Int):=yg p0
def jn (p0:(List Int)):Option (Bool) :=
 (jS p0).bind fun r1 =>
 (b6 r1).bind fun r2 =>
 (jk r2).bind fun r4 =>
 some (decide (((r4).length:Int)<(p0.length:Int)))
def ly (p0:ax) (p1:(List Int)) (p2:(List (List Int))) (p3:(List Int)):(Int)→Option ((Int)⊕((Unit)⊕((List Int)×Int)))
 | s47b =>
  if decide (s47b<(p1.length:Int)) then
   (P.idx p1 s47b).bind fun x16 =>
   (P.idx p2 s47b).bind fun x17 =>
   (kB x17).bind fun r18 =>
   (P.idx p3 s47b).bind fun x19 =>
   (ij p0 x16 r18 0 x19).bind fun r20 =>
   if (!r20) then
    some (.inr (.inr ([],22)))
   else
    some (.inl (IntKind.i64.wrap (s47b+1)))
  else
   some (.inr (.inl ()))
def kA (p0:ax) (p1:(List Int)) (p2:(List (List Int))) (p3:(List Int)) (p4:Int) (p5:Int):Option ((List Int)×Int) :=
 (lQ p2 p4 p5).bind fun r1 =>
 if (r1.2 != 0) then
  some ([],r1.2)
 else
  (if ((p1.length:Int) != (p2.length:Int)) then
   some true
  else
   some ((p3.length:Int) != (p2.length:Int))).bind fun s29j1 =>
  if s29j1 then
   some ([],2)
  else
   (jn p1).bind fun r5 =>
   if r5 then
    some ([],5)
   else
    (aV (ly p0 p1 p2 p3) 0).bind fun q=>match q with
    | (.inl _) =>
     some (r1.1,0)
    | (.inr rb) =>
     some rb
def yi (l7a:(List Int)):(Int×Int)→Option ((Int×Int)⊕((Int×Int)))
 | (s9c,s10c) =>
  if decide (s10c<((l7a).length:Int)) then
   (P.idx l7a s10c).bind fun x26 =>
   if decide (x26≤s9c) then
    some (.inl (IntKind.i64.wrap (s9c+1),IntKind.i64.wrap (s10c+1)))
   else
    some (.inr (s9c,s10c))
  else
   some (.inr (s9c,s10c))
def yh (p0:(List Int)):(Int×(List Int)×(List Int))→Option ((Int×(List Int)×(List Int))⊕(((List Int))))
 | (s20a,l6a,l7a) =>
  if decide (s20a<(p0.length:Int)) then
   (P.idx p0 s20a).bind fun x20 =>
   (aV (yi l7a) (x20,0)).bind fun q=>match q with
   | (s9cx,s10cx) =>
    (iG 8 l6a [s9cx]).bind fun x28 =>
    (W6 8 l7a s10cx [s9cx]).bind fun x30 =>
    some (.inl (IntKind.i64.wrap (s20a+1),x28,x30))
  else
   some (.inr l6a)
def oh (p0:(List Int)) (p1:Int):Option ((List Int)×Int) :=
 (jm p0 p1).bind fun r1 =>
 if (!r1) then
  some ([],1)
 else
  (Ir 8 0 (p0.length:Int) 0).bind fun x3 =>
  (aV (yh p0) (0,x3,[])).bind fun l6ax =>
  some (l6ax,0)
def ou (p4:(List Int)) (r5:(List Int)×Int):(Int×(List Int))→Option ((Int×(List Int))⊕(((List Int))))
 | (s46a,l18a) =>
  if decide (s46a<(r5.1.length:Int)) then
   (P.idx r5.1 s46a).bind fun x13 =>
   (P.idx p4 x13).bind fun x14 =>
   (iG 8 l18a [x14]).bind fun x15 =>
   some (.inl (IntKind.i64.wrap (s46a+1),x15))
  else
   some (.inr l18a)
def jf (p0:ax) (p1:(List Int)) (p2:(List (List Int))) (p3:(List Int)) (p4:(List Int)) (p5:Int):Option ((List Int)×Int) :=
 (kA p0 p1 p2 p3 (p4.length:Int) p5).bind fun r1 =>
 if (r1.2 != 0) then
  some ([],r1.2)
 else
  (gj p4).bind fun r3 =>
  if r3 then
   some ([],5)
  else
   (oh r1.1 (p4.length:Int)).bind fun r5 =>
   (aV (ou p4 r5) (0,[])).bind fun l18ax =>
   some (l18ax,0)
def lL:Option (Bool) :=
 (iA (ax.mk ([])) ([ByteArray.mk #[97],ByteArray.mk #[98],ByteArray.mk #[99]]) ([30,20,10]) ([7,8,9])).bind fun r2 =>
 (if (r2.2.2.2 != 0) then
  some true
 else
  if (r2.2.1 != 4) then
   some true
  else
   (gB r2.2.2.1 ([0,1,2])).bind fun r35 =>
   some (!r35)).bind fun s37j1 =>
 if s37j1 then
  some false
 else
  (fe 19 21).bind fun r5 =>
  (fe 21 22).bind fun r6 =>
  (jN r2.1 ([1]) 20 ([(aB.mk 1 r5)]) ([])).bind fun r8 =>
  (if r8 then
   (jN r2.1 ([1,2]) 20 ([]) ([(bp.mk 2 0)])).bind fun r28 =>
   if r28 then
    (jN r2.1 ([1]) 21 ([]) ([(bp.mk 1 1)])).bind fun r31 =>
    some r31
   else
    some false
  else
   some false).bind fun s7j2 =>
  (jN r2.1 ([1]) 20 ([(aB.mk 1 r5),(aB.mk 1 r6)]) ([(bp.mk 1 2)])).bind fun r11 =>
  (eK r2.1 4 60 24 ([1,1]) ([]) ([])).bind fun r13 =>
  (kB ([2,0])).bind fun r15 =>
  (kj r2.1 r15 0 5).bind fun r16 =>
  (jf r16.1 ([r16.2.1]) ([[2,0]]) ([5]) r2.2.2.1 2).bind fun r18 =>
  if s7j2 then
   if r11 then
    if (r13.2==5) then
     if (r16.2.2==0) then
      if (r18.2==0) then
       (gB r18.1 ([2,0])).bind fun r25 =>
       some r25
      else
       some false
     else
      some false
    else
     some false
   else
    some false
  else
   some false
def rW (p0:ax) (p1:Int):(Int)→Option ((Int)⊕((Unit)⊕(Bool)))
 | s5a =>
  (if decide (s5a<(p0.ah.length:Int)) then
   some (decide (s5a<p1))
  else
   some false).bind fun s15j3 =>
  if s15j3 then
   (P.idx p0.ah s5a).bind fun x9 =>
   if decide ((x9.cI.size:Int)>100) then
    some (.inr (.inr false))
   else
    some (.inl (IntKind.i64.wrap (s5a+1)))
  else
   some (.inr (.inl ()))
def rV (p0:ax) (p1:Int):Option (Bool) :=
 (aV (rW p0 p1) 0).bind fun q=>match q with
 | (.inl _) =>
  some (decide ((p0.ah.length:Int)≤p1))
 | (.inr ra) =>
  some ra
def pP (p0:aF) (p1:Int):Option (Bool) :=
 if decide ((p0.bx.aa.length:Int)≤p1) then
  some (decide ((p0.bt.aa.length:Int)≤p1))
 else
  some false
def rU (p0:bK) (p1:Int):Option (Bool) :=
 (pP p0.aH p1).bind fun r1 =>
 if r1 then
  (pP p0.az p1).bind fun r3 =>
  some r3
 else
  some false
def ui (p0:an) (p1:an):(Int)→Option ((Int)⊕((Unit)⊕(Bool)))
 | s5b =>
  if decide (s5b<(p0.aa.length:Int)) then
   (P.idx p0.aa s5b).bind fun x9 =>
   (P.idx p1.aa s5b).bind fun x10 =>
   if (x9 != x10) then
    some (.inr (.inr false))
   else
    some (.inl (IntKind.i64.wrap (s5b+1)))
  else
   some (.inr (.inl ()))
def ye (p0:an) (p1:an):Option (Bool) :=
 (if (p0.ag != p1.ag) then
  some true
 else
  some ((p0.aa.length:Int) != (p1.aa.length:Int))).bind fun s19j1 =>
 if s19j1 then
  some false
 else
  (aV (ui p0 p1) 0).bind fun q=>match q with
  | (.inl _) =>
   some true
  | (.inr rb) =>
   some rb
def mH (p0:an) (p1:an):Option (Int) :=
 (dm p0).bind fun r1 =>
 (if (!r1) then
  some true
 else
  (dm p1).bind fun r9 =>
  if (!r9) then
   some true
  else
   (ye p0 p1).bind fun r11 =>
   some r11).bind fun s17j1 =>
 if s17j1 then
  some 0
 else
  if (p0.ag != p1.ag) then
   if decide (p0.ag<p1.ag) then
    some (-1)
   else
    some 1
  else
   (mI p0.aa p1.aa).bind fun r6 =>
   if (r6==(decide (p0.ag>0))) then
    some (-1)
   else
    some 1
def lP (p0:aF):Option (Bool) :=
 (dm p0.bx).bind fun r1 =>
 (if (!r1) then
  some true
 else
  (dm p0.bt).bind fun r8 =>
  if (!r8) then
   some true
  else
   some (decide (p0.bt.ag<1))).bind fun s20j1 =>
 if s20j1 then
  some false
 else
  (nW p0.bx p0.bt).bind fun r4 =>
  (rS 1).bind fun r5 =>
  (mH r4.1 r5).bind fun r6 =>
  some (r6==0)
def vk (p0:an) (p1:an):Option (an×Int) :=
 (dm p0).bind fun r1 =>
 (if (!r1) then
  some true
 else
  (dm p1).bind fun r7 =>
  some (!r7)).bind fun s13j1 =>
 if s13j1 then
  some ((an.mk 0 ([])),1)
 else
  (jz p0.aa p1.aa).bind fun r4 =>
  (fu (IntKind.i64.wrap (p0.ag*p1.ag)) r4).bind fun r5 =>
  some (r5,0)
def mL (p0:aF) (p1:aF):Option (Int) :=
 (lP p0).bind fun r1 =>
 (if (!r1) then
  some true
 else
  (lP p1).bind fun r8 =>
  some (!r8)).bind fun s16j1 =>
 if s16j1 then
  some 0
 else
  (vk p0.bx p1.bt).bind fun r4 =>
  (vk p1.bx p0.bt).bind fun r5 =>
  (mH r4.1 r5.1).bind fun r6 =>
  some r6
def vo (p0:bK):Option (Bool) :=
 (lP p0.aH).bind fun r1 =>
 if r1 then
  (lP p0.az).bind fun r3 =>
  if r3 then
   (mL p0.aH p0.az).bind fun r5 =>
   some (decide (r5≤0))
  else
   some false
 else
  some false
def H8 (p0:bK) (p1:aF):Option (Bool) :=
 (vo p0).bind fun r1 =>
 if r1 then
  (lP p1).bind fun r3 =>
  if r3 then
   (mL p0.aH p1).bind fun r5 =>
   if decide (r5≤0) then
    (mL p1 p0.az).bind fun r7 =>
    some (decide (r7≤0))
   else
    some false
  else
   some false
 else
  some false
def rY (p0:(List ByteArray)) (p1:Int):(Int)→Option ((Int)⊕((Unit)⊕(Bool)))
 | s5a =>
  (if decide (s5a<(p0.length:Int)) then
   some (decide (s5a≤p1))
  else
   some false).bind fun s14j3 =>
  if s14j3 then
   (P.idx p0 s5a).bind fun x11 =>
   if decide ((x11.size:Int)>100) then
    if decide ((x11.size:Int)≤8000) then
     some (.inr (.inr false))
    else
     if decide ((x11.size:Int)>8100) then
      some (.inr (.inr false))
     else
      some (.inl (IntKind.i64.wrap (s5a+1)))
   else
    some (.inl (IntKind.i64.wrap (s5a+1)))
  else
   some (.inr (.inl ()))
def rX (p0:(List ByteArray)) (p1:Int):Option (Bool) :=
 (aV (rY p0 p1) 0).bind fun q=>match q with
 | (.inl _) =>
  some (decide ((p0.length:Int)≤p1))
 | (.inr ra) =>
  some ra
def rI (p0:fh):Option (Bool) :=
 (rX p0.aR 12).bind fun r1 =>
 if r1 then
  if decide ((p0.a8.length:Int)≤12) then
   some (decide ((p0.bu.length:Int)≤12))
  else
   some false
 else
  some false
def ke (p0:ax) (p1:fh):Option (ax×Int×(List Int)×Bool) :=
 (iA p0 p1.aR p1.a8 p1.bu).bind fun r1 =>
 if (r1.2.2.2==0) then
  if ((r1.2.2.1.length:Int)==(p1.aR.length:Int)) then
   if ((p1.a8.length:Int)==(p1.aR.length:Int)) then
    some (r1.1,r1.2.1,r1.2.2.1,((p1.bu.length:Int)==(p1.aR.length:Int)))
   else
    some (r1.1,r1.2.1,r1.2.2.1,false)
  else
   some (r1.1,r1.2.1,r1.2.2.1,false)
 else
  some (r1.1,r1.2.1,r1.2.2.1,false)
def eZ (p0:ax):(Int×(List Bool))→Option ((Int×(List Bool))⊕(((List Bool))))
 | (s6a,l5a) =>
  if decide (s6a<((l5a).length:Int)) then
   (P.idx p0.ah s6a).bind fun x20 =>
   (fL x20).bind fun r21 =>
   if (!r21) then
    (P.idx l5a x20.bn).bind fun x23 =>
    if x23 then
     (P.idx l5a s6a).bind fun x25 =>
     some (.inl (IntKind.i64.wrap (s6a+1),(l5a.set (s6a).toNat true)))
    else
     (P.idx l5a x20.bg).bind fun x27 =>
     (P.idx l5a s6a).bind fun x28 =>
     some (.inl (IntKind.i64.wrap (s6a+1),(l5a.set (s6a).toNat x27)))
   else
    (P.idx l5a s6a).bind fun x30 =>
    some (.inl (IntKind.i64.wrap (s6a+1),(l5a.set (s6a).toNat false)))
  else
   some (.inr l5a)
def kh (p0:ax) (p1:Int):Option ((List Bool)) :=
 (Ir 1 (p0.ah.length:Int) (p0.ah.length:Int) false).bind fun x1 =>
 (P.idx x1 p1).bind fun x3 =>
 (aV (eZ p0) (IntKind.i64.wrap (p1+1),(x1.set (p1).toNat true))).bind fun l5ax =>
 some l5ax
def gG (p0:ax) (p2:Int) (r4:(List Bool)):(Int×(List Int))→Option ((Int×(List Int))⊕(((List Int))))
 | (s9b,l8b) =>
  if (s9b != p2) then
   (P.idx p0.ah s9b).bind fun x17 =>
   (P.idx r4 (if x17.bg<x17.bn then x17.bg else x17.bn)).bind fun x18 =>
   if (!x18) then
    (iG 8 l8b [(if x17.bg>x17.bn then x17.bg else x17.bn)]).bind fun x20 =>
    some (.inl ((if x17.bg>x17.bn then x17.bg else x17.bn),x20))
   else
    (iG 8 l8b [(if x17.bg<x17.bn then x17.bg else x17.bn)]).bind fun x22 =>
    some (.inl ((if x17.bg<x17.bn then x17.bg else x17.bn),x22))
  else
   some (.inr l8b)
def lR (p0:ax) (p1:Int) (p2:Int):Option ((List Int)) :=
 (du p0).bind fun r1 =>
 (if (!r1) then
  some true
 else
  (lz p0 p1).bind fun r25 =>
  if (!r25) then
   some true
  else
   (lz p0 p2).bind fun r27 =>
   some (!r27)).bind fun s27j1 =>
 if s27j1 then
  some ([])
 else
  (kh p0 p2).bind fun r4 =>
  (P.idx r4 p1).bind fun x5 =>
  if (!x5) then
   some ([])
  else
   (aV (gG p0 p2 r4) (p1,[p1])).bind fun l8bx =>
   some l8bx
def jM (p0:ax) (p1:Int) (p2:(List Int)) (p3:fh) (p4:Int):Option (aN) :=
 (P.idx p2 p4).bind fun x1 =>
 (lR p0 p1 x1).bind fun r2 =>
 (P.idx p3.aR p4).bind fun x3 =>
 (P.idx p3.a8 p4).bind fun x4 =>
 (P.idx p3.bu p4).bind fun x5 =>
 some (aN.mk x1 r2 x3 x4 x5)
def jx (p0:(List Int)):(Int×Int)→Option ((Int×Int)⊕((Int)))
 | (s3a,s4a) =>
  if decide (s4a<(p0.length:Int)) then
   (P.idx p0 s4a).bind fun x5 =>
   some (.inl (IntKind.i64.wrap (s3a+x5),IntKind.i64.wrap (s4a+1)))
  else
   some (.inr s3a)
def jw (p0:(List Int)):Option (Int) :=
 (aV (jx p0) (0,0)).bind fun s3ax =>
 some s3ax
def uG (p0:(List Int)):(Int)→Option ((Int)⊕((Unit)⊕(Int)))
 | s8a =>
  if decide (s8a<(p0.length:Int)) then
   (P.idx p0 s8a).bind fun x6 =>
   if (x6 != 0) then
    some (.inr (.inr x6))
   else
    some (.inl (IntKind.i64.wrap (s8a+1)))
  else
   some (.inr (.inl ()))
def wL (p0:(List Int)):Option (Int) :=
 (aV (uG p0) 0).bind fun q=>match q with
 | (.inl _) =>
  some 0
 | (.inr ra) =>
  some ra
def ow (s0j1:(List Int)) (s1j1:(List Int)):(Int×Int×(List Int))→Option ((Int×Int×(List Int))⊕((Int×(List Int))))
 | (s6b,s22b,l5b) =>
  if decide (s22b<(s0j1.length:Int)) then
   (P.idx s0j1 s22b).bind fun x15 =>
   (if decide (s22b<(s1j1.length:Int)) then
    (P.idx s1j1 s22b).bind fun x22 =>
    some (IntKind.i64.wrap ((IntKind.i64.wrap (s6b+x15))+x22))
   else
    some (IntKind.i64.wrap (s6b+x15))).bind fun s6j4 =>
   (P.idx l5b s22b).bind fun x17 =>
   (xa .i64 s6j4 20).bind fun x19 =>
   some (.inl (x19,IntKind.i64.wrap (s22b+1),(l5b.set (s22b).toNat (jK .and .i64 s6j4 1048575))))
  else
   some (.inr (s6b,l5b))
def pf (p0:(List Int)) (p1:(List Int)):Option ((List Int)) :=
 (if decide ((p0.length:Int)<(p1.length:Int)) then
  some (p1,p0)
 else
  some (p0,p1)).bind fun q=>match q with
 | (s0j1,s1j1) =>
  (Ir 8 (IntKind.i64.wrap ((s0j1.length:Int)+1)) (IntKind.i64.wrap ((s0j1.length:Int)+1)) 0).bind fun x2 =>
  (aV (ow s0j1 s1j1) (0,0,x2)).bind fun q=>match q with
  | (s6bx,l5bx) =>
   (P.idx l5bx (s0j1.length:Int)).bind fun x23 =>
   (dL (l5bx.set ((s0j1.length:Int)).toNat s6bx)).bind fun r26 =>
   some r26
def rh (p1:(List Int)) (r1:(List Int)):(Int×Int×(List Int))→Option ((Int×Int×(List Int))⊕(((List Int))))
 | (s6a,s13a,l5a) =>
  if decide (s13a<((r1).length:Int)) then
   (P.idx l5a s13a).bind fun x12 =>
   (if decide (s13a<(p1.length:Int)) then
    (P.idx p1 s13a).bind fun x18 =>
    some (IntKind.i64.wrap ((IntKind.i64.wrap (x12-s6a))-x18))
   else
    some (IntKind.i64.wrap (x12-s6a))).bind fun s8j3 =>
   (xa .i64 s8j3 20).bind fun x14 =>
   some (.inl (jK .and .i64 x14 1,IntKind.i64.wrap (s13a+1),(l5a.set (s13a).toNat (jK .and .i64 s8j3 1048575))))
  else
   some (.inr l5a)
def nA (p0:(List Int)) (p1:(List Int)):Option ((List Int)) :=
 (bk p0).bind fun r1 =>
 (aV (rh p1 r1) (0,0,r1)).bind fun l5ax =>
 (dL l5ax).bind fun r19 =>
 some r19
def qV (p0:an) (p1:an):Option (an×Int) :=
 (cA p0).bind fun r1 =>
 (if (!r1) then
  some true
 else
  (cA p1).bind fun r21 =>
  some (!r21)).bind fun s13j1 =>
 if s13j1 then
  (eg false (an.mk 0 ([]))).bind fun r5 =>
  some (r5.1,r5.2)
 else
  if decide ((IntKind.i64.wrap (p0.ag*p1.ag))≥0) then
   (wL ([p0.ag,p1.ag])).bind fun r8 =>
   (pf p0.aa p1.aa).bind fun r9 =>
   (cB r8 r9).bind fun r10 =>
   (eg true r10).bind fun r11 =>
   some (r11.1,r11.2)
  else
   (fb p0.aa p1.aa).bind fun r12 =>
   if decide (r12<0) then
    (nA p1.aa p0.aa).bind fun r14 =>
    (cB p1.ag r14).bind fun r15 =>
    (eg true r15).bind fun r16 =>
    some (r16.1,r16.2)
   else
    (nA p0.aa p1.aa).bind fun r17 =>
    (cB p0.ag r17).bind fun r18 =>
    (eg true r18).bind fun r19 =>
    some (r19.1,r19.2)
def pe (p0:an):Option (an) :=
 (cA p0).bind fun r1 =>
 if (!r1) then
  some (an.mk 0 ([]))
 else
  (bk p0.aa).bind fun r3 =>
  (cB (IntKind.i64.wrap (0-p0.ag)) r3).bind fun r4 =>
  some r4
def l3 (p0:an) (p1:an):Option (an×an×Int) :=
 (cA p0).bind fun r1 =>
 (if (!r1) then
  some true
 else
  (cA p1).bind fun r17 =>
  some (!r17)).bind fun s9j1 =>
 if s9j1 then
  some ((an.mk 0 ([])),(an.mk 0 ([])),1)
 else
  if (p1.ag==0) then
   some ((an.mk 0 ([])),(an.mk 0 ([])),15)
  else
   (pg p0.aa p1.aa).bind fun r5 =>
   (if decide ((IntKind.i64.wrap (p0.ag*p1.ag))<0) then
    some (decide ((r5.2.length:Int)>0))
   else
    some false).bind fun s44j2 =>
   if s44j2 then
    (pf r5.1 ([1])).bind fun r9 =>
    (cB (-1) r9).bind fun r10 =>
    (nA p1.aa r5.2).bind fun r11 =>
    (cB p1.ag r11).bind fun r12 =>
    some (r10,r12,0)
   else
    (cB (IntKind.i64.wrap (p0.ag*p1.ag)) r5.1).bind fun r13 =>
    (cB p0.ag r5.2).bind fun r14 =>
    some (r13,r14,0)
def oJ (p0:an) (p1:an):Option (aF×Int) :=
 (cA p0).bind fun r1 =>
 (if (!r1) then
  some true
 else
  (cA p1).bind fun r13 =>
  some (!r13)).bind fun s14j1 =>
 if s14j1 then
  some ((aF.mk (an.mk 0 ([])) (an.mk 0 ([]))),1)
 else
  if (p1.ag==0) then
   some ((aF.mk (an.mk 0 ([])) (an.mk 0 ([]))),15)
  else
   (if decide (p1.ag<0) then
    (pe p0).bind fun r10 =>
    (pe p1).bind fun r11 =>
    some (r10.ag,r10.aa,r11.ag,r11.aa)
   else
    some (p0.ag,p0.aa,p1.ag,p1.aa)).bind fun q=>match q with
   | (r2_0j2,r2_1j2,r3_0j2,r3_1j2) =>
    (nt (an.mk r2_0j2 r2_1j2) (an.mk r3_0j2 r3_1j2)).bind fun r6 =>
    (l3 (an.mk r2_0j2 r2_1j2) r6.1).bind fun r7 =>
    (l3 (an.mk r3_0j2 r3_1j2) r6.1).bind fun r8 =>
    some ((aF.mk r7.1 r8.1),0)
def my (p0:aF) (p1:aF):Option (aF×Int) :=
 (eA p0).bind fun r1 =>
 (if (!r1) then
  some true
 else
  (eA p1).bind fun r10 =>
  some (!r10)).bind fun s15j1 =>
 if s15j1 then
  some ((aF.mk (an.mk 0 ([])) (an.mk 0 ([]))),1)
 else
  (dH p0.bx p1.bt).bind fun r4 =>
  (dH p1.bx p0.bt).bind fun r5 =>
  (qV r4 r5).bind fun r6 =>
  (dH p0.bt p1.bt).bind fun r7 =>
  (oJ r6.1 r7).bind fun r8 =>
  some (r8.1,r8.2)
def oV (p0:bK) (p1:bK):Option (bK×Int) :=
 (dZ p0).bind fun r1 =>
 (if (!r1) then
  some true
 else
  (dZ p1).bind fun r7 =>
  some (!r7)).bind fun s17j1 =>
 if s17j1 then
  some ((bK.mk (aF.mk (an.mk 0 ([])) (an.mk 0 ([]))) (aF.mk (an.mk 0 ([])) (an.mk 0 ([])))),1)
 else
  (my p0.aH p1.aH).bind fun r4 =>
  (my p0.az p1.az).bind fun r5 =>
  some ((bK.mk r4.1 r5.1),0)
def fO (p1:fh) (p2:(List bK)) (r1:Bool) (r5:ax×Int×(List Int)×Bool):(Int×(List aN)×(List aB)×Int×(List Int)×Int×(List Int)×Int×(List Int)×Int×(List Int))→Option ((Int×(List aN)×(List aB)×Int×(List Int)×Int×(List Int)×Int×(List Int)×Int×(List Int))⊕(((List aN)×(List aB)×Int×(List Int)×Int×(List Int)×Int×(List Int)×Int×(List Int))⊕(Bool)))
 | (s17b,l14b,l15b,r16_0b,r16_1b,r16_2b,r16_3b,r16_4b,r16_5b,r16_6b,r16_7b) =>
  if decide (s17b<(r5.2.2.1.length:Int)) then
   (P.idx p2 s17b).bind fun x24 =>
   (rU x24 4).bind fun r25 =>
   (if (!r25) then
    some true
   else
    (dZ x24).bind fun r36 =>
    some (!r36)).bind fun s71j4 =>
   if s71j4 then
    some (.inr (.inr r1))
   else
    (jM r5.1 r5.2.1 r5.2.2.1 p1 s17b).bind fun r28 =>
    (iG 64 l14b [r28]).bind fun x29 =>
    (P.idx r5.2.2.1 s17b).bind fun x31 =>
    (iG 136 l15b [(aB.mk x31 x24)]).bind fun x32 =>
    (oV (bK.mk (aF.mk (an.mk r16_0b r16_1b) (an.mk r16_2b r16_3b)) (aF.mk (an.mk r16_4b r16_5b) (an.mk r16_6b r16_7b))) x24).bind fun r34 =>
    some (.inl (IntKind.i64.wrap (s17b+1),x29,x32,r34.1.aH.bx.ag,r34.1.aH.bx.aa,r34.1.aH.bt.ag,r34.1.aH.bt.aa,r34.1.az.bx.ag,r34.1.az.bx.aa,r34.1.az.bt.ag,r34.1.az.bt.aa))
  else
   some (.inr (.inl (l14b,l15b,r16_0b,r16_1b,r16_2b,r16_3b,r16_4b,r16_5b,r16_6b,r16_7b)))
def fH (p0:ax) (p1:fh) (p2:(List bK)) (p3:Int):Option (Bool) :=
 (lL).bind fun r1 =>
 (rV p0 20).bind fun r2 =>
 (if (!r2) then
  some true
 else
  (rI p1).bind fun r45 =>
  if (!r45) then
   some true
  else
   some ((p2.length:Int) != (p1.aR.length:Int))).bind fun s36j1 =>
 if s36j1 then
  some r1
 else
  (ke p0 p1).bind fun r5 =>
  if (!r5.2.2.2) then
   some r1
  else
   (fe 0 0).bind fun r7 =>
   (aV (fO p1 p2 r1 r5) (0,[],[],r7.aH.bx.ag,r7.aH.bx.aa,r7.aH.bt.ag,r7.aH.bt.aa,r7.az.bx.ag,r7.az.bx.aa,r7.az.bt.ag,r7.az.bt.aa)).bind fun q=>match q with
   | (.inl (l14bx,l15bx,r16_0bx,r16_1bx,r16_2bx,r16_3bx,r16_4bx,r16_5bx,r16_6bx,r16_7bx)) =>
    (jw p1.bu).bind fun r37 =>
    (eK r5.1 r5.2.1 p3 r37 r5.2.2.1 l14bx l15bx).bind fun r38 =>
    if r1 then
     if (r38.2==0) then
      if decide ((r38.1.length:Int)>0) then
       some true
      else
       (n5 p3).bind fun r42 =>
       (iJ (bK.mk (aF.mk (an.mk r16_0bx r16_1bx) (an.mk r16_2bx r16_3bx)) (aF.mk (an.mk r16_4bx r16_5bx) (an.mk r16_6bx r16_7bx))) r42).bind fun r43 =>
       some r43
     else
      some false
    else
     some false
   | (.inr rb) =>
    some rb
end Go.Proofs.YtpkahnkoecbndaaGreatDoor.P
namespace Go.Proofs.YtpkahnkoecbndaaGreatDoor.Am
open Go.RowKit Go.Proofs.YtpkahnkoecbndaaGreatDoor.P
set_option maxRecDepth 100000
set_option maxHeartbeats 4000000
set_option linter.unusedSimpArgs false
set_option linter.unusedVariables false
theorem vmt:type_of% (ai @WD<|ai @LR<|ai @WE<|ai @WG<|ai @P0<|ai @T3<|ai @T4<|ai @ND<|ai @T5<|ai @Ih<|ai @NF<|ai @T6<|ai @T7<|ai @T8<|ai @T9<|ai @Ua<|ai @Ub<|ai @NG<|ai @Uc<|ai @NH<|ai @Ud<|ai @Ii<|ai @Ue<|ai @Uf<|ai @NI<|ai @Ug<|ai @Ij<|ai @Uh<|ai @Ik<|ai @Ui<|ai @Uj<|ai @Uk<|ai @Ul<|ai @Um<|ai @Il<|ai @Un<|ai @Uo<|ai @PL<|ai @PM<|ai @PN<|ai @PO<|ai @PQ<|ai @PR<|ai @PS<|ai @PT<|ai @PU<|ai @PV<|ai @PW<|ai @PX<|ai @PY<|@PZ):=⟨@WD,@LR,@WE,@WG,@P0,@T3,@T4,@ND,@T5,@Ih,@NF,@T6,@T7,@T8,@T9,@Ua,@Ub,@NG,@Uc,@NH,@Ud,@Ii,@Ue,@Uf,@NI,@Ug,@Ij,@Uh,@Ik,@Ui,@Uj,@Uk,@Ul,@Um,@Il,@Un,@Uo,@PL,@PM,@PN,@PO,@PQ,@PR,@PS,@PT,@PU,@PV,@PW,@PX,@PY,@PZ⟩
def fG:jX an:=AJ (kQ (eI .i64) (qG (eI .i64))) (fun x=>(x.ag,x.aa)) (by rintro⟨⟩ ⟨⟩ h;simpa using h)
theorem zO (x:an):fG.cells x=[.int .i64 x.ag,.sl false false x.aa.length (ab (eI .i64) x.aa)]:=Eq.trans rfl rfl
theorem B6:fG.size=2:=Eq.trans rfl rfl
theorem JA (x:an):an.mk x.ag x.aa=x:=Eq.trans rfl rfl
def kd:jX aF:=AJ (kQ fG fG) (fun x=>(x.bx,x.bt)) (by rintro⟨⟩ ⟨⟩ h;simpa using h)
theorem xx (x:aF):kd.cells x=[.int .i64 x.bx.ag,.sl false false x.bx.aa.length (ab (eI .i64) x.bx.aa),.int .i64 x.bt.ag,.sl false false x.bt.aa.length (ab (eI .i64) x.bt.aa)]:=Eq.trans rfl rfl
theorem zP:kd.size=4:=Eq.trans rfl rfl
theorem FJ (x:aF):aF.mk x.bx x.bt=x:=Eq.trans rfl rfl
def fc:jX bK:=AJ (kQ kd kd) (fun x=>(x.aH,x.az)) (by rintro⟨⟩ ⟨⟩ h;simpa using h)
theorem xz (x:bK):fc.cells x=[.int .i64 x.aH.bx.ag,.sl false false x.aH.bx.aa.length (ab (eI .i64) x.aH.bx.aa),.int .i64 x.aH.bt.ag,.sl false false x.aH.bt.aa.length (ab (eI .i64) x.aH.bt.aa),.int .i64 x.az.bx.ag,.sl false false x.az.bx.aa.length (ab (eI .i64) x.az.bx.aa),.int .i64 x.az.bt.ag,.sl false false x.az.bt.aa.length (ab (eI .i64) x.az.bt.aa)]:=Eq.trans rfl rfl
theorem zR:fc.size=8:=Eq.trans rfl rfl
theorem FL (x:bK):bK.mk x.aH x.az=x:=Eq.trans rfl rfl
def bd:jX aB:=AJ (kQ (eI .i64) fc) (fun x=>(x.ct,x.bP)) (by rintro⟨⟩ ⟨⟩ h;simpa using h)
theorem ss (x:aB):bd.cells x=[.int .i64 x.ct,.int .i64 x.bP.aH.bx.ag,.sl false false x.bP.aH.bx.aa.length (ab (eI .i64) x.bP.aH.bx.aa),.int .i64 x.bP.aH.bt.ag,.sl false false x.bP.aH.bt.aa.length (ab (eI .i64) x.bP.aH.bt.aa),.int .i64 x.bP.az.bx.ag,.sl false false x.bP.az.bx.aa.length (ab (eI .i64) x.bP.az.bx.aa),.int .i64 x.bP.az.bt.ag,.sl false false x.bP.az.bt.aa.length (ab (eI .i64) x.bP.az.bt.aa)]:=Eq.trans rfl rfl
theorem tE:bd.size=9:=Eq.trans rfl rfl
theorem xF (x:aB):aB.mk x.ct x.bP=x:=Eq.trans rfl rfl
def tD:jX fh:=AJ (kQ (qG fX) (kQ (qG (eI .i64)) (qG (eI .i64)))) (fun x=>(x.aR,x.a8,x.bu)) (by rintro⟨⟩ ⟨⟩ h;simpa using h)
theorem xy (x:fh):tD.cells x=[.sl false false x.aR.length (ab fX x.aR),.sl false false x.a8.length (ab (eI .i64) x.a8),.sl false false x.bu.length (ab (eI .i64) x.bu)]:=Eq.trans rfl rfl
theorem zQ:tD.size=3:=Eq.trans rfl rfl
theorem FK (x:fh):fh.mk x.aR x.a8 x.bu=x:=Eq.trans rfl rfl
def bZ:jX aN:=AJ (kQ (eI .i64) (kQ (qG (eI .i64)) (kQ fX (kQ (eI .i64) (eI .i64))))) (fun x=>(x.ct,x.dO,x.cI,x.aJ,x.aM)) (by rintro⟨⟩ ⟨⟩ h;simpa using h)
theorem su (x:aN):bZ.cells x=[.int .i64 x.ct,.sl false false x.dO.length (ab (eI .i64) x.dO),.str x.cI,.int .i64 x.aJ,.int .i64 x.aM]:=Eq.trans rfl rfl
theorem tF:bZ.size=5:=Eq.trans rfl rfl
theorem xG (x:aN):aN.mk x.ct x.dO x.cI x.aJ x.aM=x:=Eq.trans rfl rfl
def ch:jX bp:=AJ (kQ (eI .i64) (eI .i64)) (fun x=>(x.ct,x.kS)) (by rintro⟨⟩ ⟨⟩ h;simpa using h)
theorem sr (x:bp):ch.cells x=[.int .i64 x.ct,.int .i64 x.kS]:=Eq.trans rfl rfl
theorem tC:ch.size=2:=Eq.trans rfl rfl
theorem xE (x:bp):bp.mk x.ct x.kS=x:=Eq.trans rfl rfl
def aq:jX al:=AJ (kQ fX (kQ (eI .i64) (kQ (eI .i64) (kQ (eI .i64) (eI .i64))))) (fun x=>(x.cI,x.aJ,x.aM,x.bn,x.bg)) (by rintro⟨⟩ ⟨⟩ h;simpa using h)
theorem vT (x:al):aq.cells x=[.str x.cI,.int .i64 x.aJ,.int .i64 x.aM,.int .i64 x.bn,.int .i64 x.bg]:=Eq.trans rfl rfl
theorem xA:aq.size=5:=Eq.trans rfl rfl
theorem Ch (x:al):al.mk x.cI x.aJ x.aM x.bn x.bg=x:=Eq.trans rfl rfl
def ep:jX ax:=AJ (qG aq) (fun x=>(x.ah)) (by rintro⟨⟩ ⟨⟩ h;simpa using h)
theorem vU (x:ax):ep.cells x=[.sl false false x.ah.length (ab aq x.ah)]:=Eq.trans rfl rfl
theorem xB:ep.size=1:=Eq.trans rfl rfl
theorem Ci (x:ax):ax.mk x.ah=x:=Eq.trans rfl rfl
def A4:jX kc:=AJ (kQ ep (kQ (eI .i64) (kQ (eI .i64) (eI .i64)))) (fun x=>(x.Vk,x.yQ,x.uM,x.uL)) (by rintro⟨⟩ ⟨⟩ h;simpa using h)
theorem vV (x:kc):A4.cells x=[.sl false false x.Vk.ah.length (ab aq x.Vk.ah),.int .i64 x.yQ,.int .i64 x.uM,.int .i64 x.uL]:=Eq.trans rfl rfl
theorem xC:A4.size=4:=Eq.trans rfl rfl
theorem Cj (x:kc):kc.mk x.Vk x.yQ x.uM x.uL=x:=Eq.trans rfl rfl
def FD:jX xj:=AJ ep (fun x=>(x.A7)) (by rintro⟨⟩ ⟨⟩ h;simpa using h)
theorem sw (x:xj):FD.cells x=[.sl false false x.A7.ah.length (ab aq x.A7.ah)]:=Eq.trans rfl rfl
theorem tG:FD.size=1:=Eq.trans rfl rfl
theorem xH (x:xj):xj.mk x.A7=x:=Eq.trans rfl rfl
theorem Wc {l:List _} : (ab (eI .i64) l).length=l.length*1:=cQ _ l
theorem NJ {l:List _} : (ab (eI .i64) l).take (l.length*1)=ab (eI .i64) l:=by
 have:=fN (eI .i64) l l.length
 rw[List.take_length]at this
 exact this
theorem Up {l:List _} {i:Nat} {x:_} : (ab (eI .i64) (l.set i x)).take (l.length*1)=ab (eI .i64) (l.set i x):=by
 have:=@NJ (l.set i x)
 rwa [List.length_set]at this
theorem Wd {l:List _} : (ab (eI .u8) l).length=l.length*1:=cQ _ l
theorem NK {l:List _} : (ab (eI .u8) l).take (l.length*1)=ab (eI .u8) l:=by
 have:=fN (eI .u8) l l.length
 rw[List.take_length]at this
 exact this
theorem Uq {l:List _} {i:Nat} {x:_} : (ab (eI .u8) (l.set i x)).take (l.length*1)=ab (eI .u8) (l.set i x):=by
 have:=@NK (l.set i x)
 rwa [List.length_set]at this
theorem We {l:List _} : (ab (qG (eI .i64)) l).length=l.length*1:=cQ _ l
theorem NL {l:List _} : (ab (qG (eI .i64)) l).take (l.length*1)=ab (qG (eI .i64)) l:=by
 have:=fN (qG (eI .i64)) l l.length
 rw[List.take_length]at this
 exact this
theorem Ur {l:List _} {i:Nat} {x:_} : (ab (qG (eI .i64)) (l.set i x)).take (l.length*1)=ab (qG (eI .i64)) (l.set i x):=by
 have:=@NL (l.set i x)
 rwa [List.length_set]at this
theorem Wf {l:List _} : (ab gP l).length=l.length*1:=cQ _ l
theorem NM {l:List _} : (ab gP l).take (l.length*1)=ab gP l:=by
 have:=fN gP l l.length
 rw[List.take_length]at this
 exact this
theorem Us {l:List _} {i:Nat} {x:_} : (ab gP (l.set i x)).take (l.length*1)=ab gP (l.set i x):=by
 have:=@NM (l.set i x)
 rwa [List.length_set]at this
theorem Wg {l:List _} : (ab fX l).length=l.length*1:=cQ _ l
theorem NN {l:List _} : (ab fX l).take (l.length*1)=ab fX l:=by
 have:=fN fX l l.length
 rw[List.take_length]at this
 exact this
theorem Ut {l:List _} {i:Nat} {x:_} : (ab fX (l.set i x)).take (l.length*1)=ab fX (l.set i x):=by
 have:=@NN (l.set i x)
 rwa [List.length_set]at this
theorem Wh {l:List _} : (ab ch l).length=l.length*2:=cQ _ l
theorem NO {l:List _} : (ab ch l).take (l.length*2)=ab ch l:=by
 have:=fN ch l l.length
 rw[List.take_length]at this
 exact this
theorem Uu {l:List _} {i:Nat} {x:_} : (ab ch (l.set i x)).take (l.length*2)=ab ch (l.set i x):=by
 have:=@NO (l.set i x)
 rwa [List.length_set]at this
theorem Wi {l:List _} : (ab bd l).length=l.length*9:=cQ _ l
theorem NP {l:List _} : (ab bd l).take (l.length*9)=ab bd l:=by
 have:=fN bd l l.length
 rw[List.take_length]at this
 exact this
theorem Uv {l:List _} {i:Nat} {x:_} : (ab bd (l.set i x)).take (l.length*9)=ab bd (l.set i x):=by
 have:=@NP (l.set i x)
 rwa [List.length_set]at this
theorem Wj {l:List _} : (ab bZ l).length=l.length*5:=cQ _ l
theorem NQ {l:List _} : (ab bZ l).take (l.length*5)=ab bZ l:=by
 have:=fN bZ l l.length
 rw[List.take_length]at this
 exact this
theorem Uw {l:List _} {i:Nat} {x:_} : (ab bZ (l.set i x)).take (l.length*5)=ab bZ (l.set i x):=by
 have:=@NQ (l.set i x)
 rwa [List.length_set]at this
theorem Wk {l:List _} : (ab fc l).length=l.length*8:=cQ _ l
theorem NR {l:List _} : (ab fc l).take (l.length*8)=ab fc l:=by
 have:=fN fc l l.length
 rw[List.take_length]at this
 exact this
theorem Ux {l:List _} {i:Nat} {x:_} : (ab fc (l.set i x)).take (l.length*8)=ab fc (l.set i x):=by
 have:=@NR (l.set i x)
 rwa [List.length_set]at this
theorem Wl {l:List _} : (ab aq l).length=l.length*5:=cQ _ l
theorem NS {l:List _} : (ab aq l).take (l.length*5)=ab aq l:=by
 have:=fN aq l l.length
 rw[List.take_length]at this
 exact this
theorem Uy {l:List _} {i:Nat} {x:_} : (ab aq (l.set i x)).take (l.length*5)=ab aq (l.set i x):=by
 have:=@NS (l.set i x)
 rwa [List.length_set]at this
theorem Zs:type_of% (ai @xw<|ai @zN<|ai @B5<|ai @yO<|ai @OS<|ai @B4<|ai @FC<|ai @Jv<|ai @xD<|ai @zO<|ai @B6<|ai @xx<|ai @zP<|ai @xz<|ai @zR<|ai @ss<|ai @tE<|ai @xy<|ai @zQ<|ai @su<|ai @tF<|ai @sr<|ai @tC<|ai @vT<|ai @xA<|ai @vU<|ai @xB<|ai @vV<|ai @xC<|ai @sw<|@tG):=⟨@xw,@zN,@B5,@yO,@OS,@B4,@FC,@Jv,@xD,@zO,@B6,@xx,@zP,@xz,@zR,@ss,@tE,@xy,@zQ,@su,@tF,@sr,@tC,@vT,@xA,@vU,@xB,@vV,@xC,@sw,@tG⟩
theorem vml:type_of% (ai @aP<|ai @JA<|ai @FJ<|ai @FL<|ai @xF<|ai @FK<|ai @xG<|ai @xE<|ai @Ch<|ai @Ci<|ai @Cj<|ai @xH<|ai @Wc<|ai @NJ<|ai @Up<|ai @Wd<|ai @NK<|ai @Uq<|ai @We<|ai @NL<|ai @Ur<|ai @Wf<|ai @NM<|ai @Us<|ai @Wg<|ai @NN<|ai @Ut<|ai @Wh<|ai @NO<|ai @Uu<|ai @Wi<|ai @NP<|ai @Uv<|ai @Wj<|ai @NQ<|ai @Uw<|ai @Wk<|ai @NR<|ai @Ux<|ai @Wl<|ai @NS<|@Uy):=⟨@aP,@JA,@FJ,@FL,@xF,@FK,@xG,@xE,@Ch,@Ci,@Cj,@xH,@Wc,@NJ,@Up,@Wd,@NK,@Uq,@We,@NL,@Ur,@Wf,@NM,@Us,@Wg,@NN,@Ut,@Wh,@NO,@Uu,@Wi,@NP,@Uv,@Wj,@NQ,@Uw,@Wk,@NR,@Ux,@Wl,@NS,@Uy⟩
theorem w:type_of% (ai @v<|ai @vmt<|ai @Zs<|ai @vml<|@vi):=⟨@v,@vmt,@Zs,@vml,@vi⟩
theorem bU:type_of% (ai @Zs<|ai @List.cons_append.{0}<|ai @List.nil_append.{0}<|ai @List.length_nil.{0}<|ai @List.drop_succ_cons.{0}<|@List.drop_zero.{0}):=⟨@Zs,@List.cons_append.{0},@List.nil_append.{0},@List.length_nil.{0},@List.drop_succ_cons.{0},@List.drop_zero.{0}⟩
noncomputable def je:=eL (ec (aI .i64) (dJ (aI .i64))) (fun x:Int×Int=>eD x.1 x.2) (fun r:Bool =>.clean (.bool r))
theorem gT (p0:Int) (p1:Int):je none [.int .i64 p0,.int .i64 p1]=(eD p0 p1).map fun r:Bool=>(.clean (.bool r),none):=aK _ _ _ (p0,p1)
theorem CP (p0:Int) (p1:Int) (r:Bool) (hh:eD p0 p1=some r):aQ .clean tab aS FU Tryz.f91 none [.int .i64 p0,.int .i64 p1]=some (.clean (.bool r),none):=by
 refine av rfl Tryz.ntmps91 Tryz.results91 ?_
 unfold eD at hh
 try simp only[w,seval,-Int.reduceToNat]
 refine sp bJ hh (fun _ hh =>?_) (fun _ hh =>?_)
 ·cases hh
  try simp only[w,seval,-Int.reduceToNat]
 ·cases hh
  try simp only[w,seval,-Int.reduceToNat]
theorem mY:bH Tryz.prog 91 je:=bH.of (mode := .clean) tok bN.none mixed Tryz.func91 (by kernel_rfl) ⟨by kernel_rfl,by kernel_rfl⟩ (fun _=>Nat.le_of_ble_eq_true (by kernel_rfl)) (fun x r h=>CP x.1 x.2 r h)
noncomputable def ns:=eL (dJ (cJ aq)) (fun x:al=>jo x) (fun r:Bool =>.clean (.bool r))
theorem nV (p0_0:ByteArray) (p0_1:Int) (p0_2:Int) (p0_3:Int) (p0_4:Int):ns none [.agg [.str p0_0,.int .i64 p0_1,.int .i64 p0_2,.int .i64 p0_3,.int .i64 p0_4]]=(jo (al.mk p0_0 p0_1 p0_2 p0_3 p0_4)).map fun r:Bool=>(.clean (.bool r),none):=aK _ _ _ ((al.mk p0_0 p0_1 p0_2 p0_3 p0_4))
noncomputable def nM:Env:=(Am.ext aS 91 false je)
theorem Ee:bN Tryz.prog nM:=(bN.none.add mY false)
theorem dE:type_of% (ai @w<|ai @gT<|@nM.eq_1):=⟨@w,@gT,@nM.eq_1⟩
theorem HK (p0:al) (r:Bool) (hh:jo p0=some r):aQ .clean tab nM FU Tryz.f51 none [.agg [.str p0.cI,.int .i64 p0.aJ,.int .i64 p0.aM,.int .i64 p0.bn,.int .i64 p0.bg]]=some (.clean (.bool r),none):=by
 refine av rfl Tryz.ntmps51 Tryz.results51 ?_
 unfold jo at hh
 try simp only[dE,seval,-Int.reduceToNat]
 obtain⟨o1,ho1,hh⟩:=ae hh
 refine bD 0 (fun s t H e=>match s with|s3j1=>∃v1j1:Nat,t 1=.ptr 1 v1j1 0∧t 3=.bool s3j1∧H 1=some ⟨v1j1,87,[.str p0.cI,.int .i64 p0.aJ,.int .i64 p0.aM,.int .i64 p0.bn,.int .i64 p0.bg],false,false,false⟩) (fun s=>s=o1) ?_ ?_
 ·rintro s3j1 t H e ⟨v1j1,Zj1⟩ rfl
  try dsimp only at hh
  try simp only[dE,seval,-Int.reduceToNat,Zj1]
  refine sp bJ hh (fun _ hh =>?_) (fun _ hh =>?_)
  ·try simp only[dE,seval,-Int.reduceToNat,Zj1]
   refine sp bJ hh (fun _ hh =>?_) (fun _ hh =>?_)
   ·obtain⟨r4,hr4,hh⟩:=ae hh
    try simp only[dE,seval,-Int.reduceToNat,Zj1,hr4]
    refine sp bJ hh (fun _ hh =>?_) (fun _ hh =>?_)
    ·obtain⟨r6,hr6,hh⟩:=ae hh
     cases hh
     try simp only[dE,seval,-Int.reduceToNat,Zj1,hr4,hr6]
    ·cases hh
     try simp only[dE,seval,-Int.reduceToNat,Zj1,hr4]
   ·cases hh
    try simp only[dE,seval,-Int.reduceToNat,Zj1]
  ·cases hh
   try simp only[dE,seval,-Int.reduceToNat,Zj1]
 ·clear hh
  have hh:=ho1
  try simp only[dE,seval,-Int.reduceToNat]
  refine sp bJ hh (fun _ hh =>?_) (fun _ hh =>?_)
  ·cases hh
   try simp only[dE,seval,-Int.reduceToNat]
   rw[ak]
   refine⟨_,rfl,?_⟩
   refine⟨0,?_,?_,?_⟩
   all_goals first|rfl|(simp only[dE,seval,-Int.reduceToNat]<;>rfl)
  ·cases hh
   try simp only[dE,seval,-Int.reduceToNat]
   rw[ak]
   refine⟨_,rfl,?_⟩
   refine⟨0,?_,?_,?_⟩
   all_goals first|rfl|(simp only[dE,seval,-Int.reduceToNat]<;>rfl)
theorem v8:bH Tryz.prog 51 ns:=bH.of (mode := .clean) tok Ee mixed Tryz.func51 (by kernel_rfl) ⟨by kernel_rfl,by kernel_rfl⟩ (fun _=>Nat.le_of_ble_eq_true (by kernel_rfl)) (fun x r h=>HK x r h)
noncomputable def qT:=eL (ec (iE aq) (ec (aI .i64) (dJ (aI .i64)))) (fun x:(List al)×Int×Int=>kl x.1 x.2.1 x.2.2) (fun r:al×Int =>.clean (.tup [.agg [.str r.1.cI,.int .i64 r.1.aJ,.int .i64 r.1.aM,.int .i64 r.1.bn,.int .i64 r.1.bg],.int .i64 r.2]))
theorem yd (p0:(List al)) (p1:Int) (p2:Int):qT none [.sl false false p0.length (ab aq p0),.int .i64 p1,.int .i64 p2]=(kl p0 p1 p2).map fun r:al×Int=>(.clean (.tup [.agg [.str r.1.cI,.int .i64 r.1.aJ,.int .i64 r.1.aM,.int .i64 r.1.bn,.int .i64 r.1.bg],.int .i64 r.2]),none):=aK _ _ _ (p0,p1,p2)
noncomputable def nN:Env:=(Am.ext aS 91 false je)
theorem Ef:bN Tryz.prog nN:=(bN.none.add mY false)
theorem di:type_of% (ai @w<|ai @gT<|@nN.eq_1):=⟨@w,@gT,@nN.eq_1⟩
theorem HL (p0:(List al)) (p1:Int) (p2:Int) (r:al×Int) (hh:kl p0 p1 p2=some r):aQ .clean tab nN FU Tryz.f67 none [.sl false false p0.length (ab aq p0),.int .i64 p1,.int .i64 p2]=some (.clean (.tup [.agg [.str r.1.cI,.int .i64 r.1.aJ,.int .i64 r.1.aM,.int .i64 r.1.bn,.int .i64 r.1.bg],.int .i64 r.2]),none):=by
 refine av rfl Tryz.ntmps67 Tryz.results67 ?_
 unfold kl at hh
 obtain⟨r1,hr1,hh⟩:=ae hh
 try simp only[di,seval,-Int.reduceToNat,hr1]
 obtain⟨o2,ho2,hh⟩:=ae hh
 refine bD 0 (fun s t H e=>match s with|s24j1=>∃v6j1:Nat,t 0=.sl false false p0.length (ab aq p0)∧t 1=.int .i64 p1∧t 2=.int .i64 p2∧t 6=.ptr 6 v6j1 0∧t 24=.bool s24j1∧H 6=some ⟨v6j1,87,[.str (ByteArray.mk #[]),.int .i64 0,.int .i64 0,.int .i64 0,.int .i64 0],false,false,false⟩) (fun s=>s=o2) ?_ ?_
 ·rintro s24j1 t H e ⟨v6j1,Zj1⟩ rfl
  try dsimp only at hh
  try simp only[di,seval,-Int.reduceToNat,hr1,Zj1]
  refine sp aj hh (fun _ hh =>?_) (fun _ hh =>?_)
  ·cases hh
   try simp only[di,seval,-Int.reduceToNat,hr1,Zj1]
  ·obtain⟨x4,hx4,hh⟩:=ae hh
   have ax4:=bG aq hx4
   simp only[bU]at ax4
   obtain⟨x5,hx5,hh⟩:=ae hh
   have ax5:=bG aq hx5
   simp only[bU]at ax5
   try simp only[di,seval,-Int.reduceToNat,hr1,Zj1,ax4,ax5]
   refine bI (by kernel_rfl) ?_
   try simp only[di,seval,-Int.reduceToNat,hr1,Zj1,ax4,ax5]
   refine sp aU hh (fun _ hh =>?_) (fun _ hh =>?_)
   ·cases hh
    try simp only[di,seval,-Int.reduceToNat,hr1,Zj1,ax4,ax5]
   ·try simp only[di,seval,-Int.reduceToNat,hr1,Zj1,ax4,ax5]
    refine sp aj hh (fun _ hh =>?_) (fun _ hh =>?_)
    ·cases hh
     try simp only[di,seval,-Int.reduceToNat,hr1,Zj1,ax4,ax5]
    ·cases hh
     try simp only[di,seval,-Int.reduceToNat,hr1,Zj1,ax4,ax5]
 ·clear hh
  have hh:=ho2
  try simp only[di,seval,-Int.reduceToNat,hr1]
  refine sp aU hh (fun _ hh =>?_) (fun _ hh =>?_)
  ·cases hh
   try simp only[di,seval,-Int.reduceToNat,hr1]
   rw[ak]
   refine⟨_,rfl,?_⟩
   refine⟨0,?_,?_,?_,?_,?_,?_⟩
   all_goals first|rfl|(simp only[di,seval,-Int.reduceToNat,hr1]<;>rfl)
  ·obtain⟨r9,hr9,hh⟩:=ae hh
   cases hh
   try simp only[di,seval,-Int.reduceToNat,hr1,hr9]
   rw[ak]
   refine⟨_,rfl,?_⟩
   refine⟨0,?_,?_,?_,?_,?_,?_⟩
   all_goals first|rfl|(simp only[di,seval,-Int.reduceToNat,hr1,hr9]<;>rfl)
theorem ED:bH Tryz.prog 67 qT:=bH.of (mode := .clean) tok Ef mixed Tryz.func67 (by kernel_rfl) ⟨by kernel_rfl,by kernel_rfl⟩ (fun _=>Nat.le_of_ble_eq_true (by kernel_rfl)) (fun x r h=>HL x.1 x.2.1 x.2.2 r h)
noncomputable def fF:=eL (dJ (cJ ep)) (fun x:ax=>du x) (fun r:Bool =>.clean (.bool r))
theorem cU (p0_0:(List al)):fF none [.agg [.sl false false p0_0.length (ab aq p0_0)]]=(du (ax.mk p0_0)).map fun r:Bool=>(.clean (.bool r),none):=aK _ _ _ ((ax.mk p0_0))
noncomputable def mf:Env:=(Am.ext (Am.ext aS 51 false ns) 67 false qT)
theorem Cx:bN Tryz.prog mf:=((bN.none.add v8 false).add ED false)
theorem bS:type_of% (ai @w<|ai @nV<|ai @yd<|@mf.eq_1):=⟨@w,@nV,@yd,@mf.eq_1⟩
theorem Et (p0:ax) (r:Bool) (hh:du p0=some r):aQ .clean tab mf FU Tryz.f39 none [.agg [.sl false false p0.ah.length (ab aq p0.ah)]]=some (.clean (.bool r),none):=by
 refine av rfl Tryz.ntmps39 Tryz.results39 ?_
 unfold du at hh
 try simp only[bS,seval,-Int.reduceToNat]
 refine sp aj hh (fun _ hh =>?_) (fun _ hh =>?_)
 ·cases hh
  try simp only[bS,seval,-Int.reduceToNat]
 ·try simp only[bS,seval,-Int.reduceToNat]
  obtain⟨o11,ho11,hh⟩:=ae hh
  refine aA (fun s t H e=>match s with|s14a=>∃v1a:Nat,t 1=.ptr 1 v1a 0∧t 12=.sl false false p0.ah.length (ab aq p0.ah)∧t 13=.int .i64 (p0.ah.length:Int)∧t 14=.int .i64 s14a∧H 1=some ⟨v1a,24,[.sl false false p0.ah.length (ab aq p0.ah)],false,false,false⟩) (fun o x t H e=>match o with|(.inl _)=>x=.exit 0|(.inr r)=>x=.ret∧gW .clean tab none [.tmp 2] ⟨t,H,e⟩=some (.clean (.bool r),none)) ho11 ?_ ?_ ?_
  ·refine⟨0,?_,?_,?_,?_,?_⟩
   all_goals first|rfl|(simp only[bS,seval,-Int.reduceToNat]<;>rfl)
  ·rintro s14a t H e ⟨v1a,Za⟩ c hh
   simp only[lA]at hh
   try simp only[bS,seval,-Int.reduceToNat,Za]
   refine sp aj hh (fun _ hh =>?_) (fun _ hh =>?_)
   ·obtain⟨x13,hx13,hh⟩:=ae hh
    have ax13:=bG aq hx13
    simp only[bU]at ax13
    obtain⟨r14,hr14,hh⟩:=ae hh
    try simp only[bS,seval,-Int.reduceToNat,Za,ax13,hr14]
    refine sp aj hh (fun _ hh =>?_) (fun _ hh =>?_)
    ·cases hh
     try simp only[bS,seval,-Int.reduceToNat,Za,ax13,hr14]
     refine jB ?_
     refine⟨v1a,?_,?_,?_,?_,?_⟩
     all_goals first|rfl|(simp only[bS,seval,-Int.reduceToNat,Za,ax13,hr14]<;>rfl)
    ·obtain⟨x16,hx16,hh⟩:=ae hh
     obtain⟨q17a,q17b,q17c,q17d,q17e⟩:=DB aq hx16
     simp only[bU]at q17e
     obtain⟨r18,hr18,hh⟩:=ae hh
     try simp only[bS,seval,-Int.reduceToNat,Za,ax13,hr14,q17a,q17b,q17c,q17d,q17e,hr18]
     refine bI (by kernel_rfl) ?_
     try simp only[bS,seval,-Int.reduceToNat,Za,ax13,hr14,q17a,q17b,q17c,q17d,q17e,hr18]
     refine sp aU hh (fun _ hh =>?_) (fun _ hh =>?_)
     ·cases hh
      try simp only[bS,seval,-Int.reduceToNat,Za,ax13,hr14,q17a,q17b,q17c,q17d,q17e,hr18]
      refine yZ ⟨rfl,?_⟩
      try simp only[bS,seval,-Int.reduceToNat,Za,ax13,hr14,q17a,q17b,q17c,q17d,q17e,hr18]
     ·try simp only[bS,seval,-Int.reduceToNat,Za,ax13,hr14,q17a,q17b,q17c,q17d,q17e,hr18]
      refine sp aj hh (fun _ hh =>?_) (fun _ hh =>?_)
      ·cases hh
       try simp only[bS,seval,-Int.reduceToNat,Za,ax13,hr14,q17a,q17b,q17c,q17d,q17e,hr18]
       refine yZ ⟨rfl,?_⟩
       try simp only[bS,seval,-Int.reduceToNat,Za,ax13,hr14,q17a,q17b,q17c,q17d,q17e,hr18]
      ·cases hh
       try simp only[bS,seval,-Int.reduceToNat,Za,ax13,hr14,q17a,q17b,q17c,q17d,q17e,hr18]
       refine jB ?_
       refine⟨v1a,?_,?_,?_,?_,?_⟩
       all_goals first|rfl|(simp only[bS,seval,-Int.reduceToNat,Za,ax13,hr14,q17a,q17b,q17c,q17d,q17e,hr18]<;>rfl)
   ·cases hh
    try simp only[bS,seval,-Int.reduceToNat,Za]
    refine kH ?_
    exact rfl
  ·rintro x t H e hx
   rcases o11 with _|ra
   ·dsimp only at hx hh
    subst hx
    cases hh
    try simp only[bS,seval,-Int.reduceToNat]
   ·dsimp only at hx hh
    obtain⟨rfl,hE⟩:=hx
    cases hh
    try simp only[bq,bj,bF,dr,dq]
    exact hE
theorem gS:bH Tryz.prog 39 fF:=bH.of (mode := .clean) tok Cx mixed Tryz.func39 (by kernel_rfl) ⟨by kernel_rfl,by kernel_rfl⟩ (fun _=>Nat.le_of_ble_eq_true (by kernel_rfl)) (fun x r h=>Et x r h)
noncomputable def s9:=eL (ec UY (ec (aI .i64) (dJ (aI .i64)))) (fun x:ByteArray×Int×Int=>kC x.1 x.2.1 x.2.2) (fun r:al =>.clean (.agg [.str r.cI,.int .i64 r.aJ,.int .i64 r.aM,.int .i64 r.bn,.int .i64 r.bg]))
theorem Ai (p0:ByteArray) (p1:Int) (p2:Int):s9 none [.str p0,.int .i64 p1,.int .i64 p2]=(kC p0 p1 p2).map fun r:al=>(.clean (.agg [.str r.cI,.int .i64 r.aJ,.int .i64 r.aM,.int .i64 r.bn,.int .i64 r.bg]),none):=aK _ _ _ (p0,p1,p2)
theorem KL (p0:ByteArray) (p1:Int) (p2:Int) (r:al) (hh:kC p0 p1 p2=some r):aQ .clean tab aS FU Tryz.f62 none [.str p0,.int .i64 p1,.int .i64 p2]=some (.clean (.agg [.str r.cI,.int .i64 r.aJ,.int .i64 r.aM,.int .i64 r.bn,.int .i64 r.bg]),none):=by
 refine av rfl Tryz.ntmps62 Tryz.results62 ?_
 unfold kC at hh
 cases hh
 try simp only[w,seval,-Int.reduceToNat]
theorem H0:bH Tryz.prog 62 s9:=bH.of (mode := .clean) tok bN.none mixed Tryz.func62 (by kernel_rfl) ⟨by kernel_rfl,by kernel_rfl⟩ (fun _=>Nat.le_of_ble_eq_true (by kernel_rfl)) (fun x r h=>KL x.1 x.2.1 x.2.2 r h)
theorem y3 (r:(List al)) (hh:dD []=some r):aQ (.fresh 87 5) tab aS FU Tryz.f63 none [.sl true true 0 []]=some (.fresh 87 5 r.length (ab aq r),none):=by
 unfold dD at hh
 obtain⟨qa,qb,qc⟩:=qU hh
 subst qa
 refine av rfl Tryz.ntmps63 Tryz.results63 ?_
 simp only[w,seval,-Int.reduceToNat,Nat.lt_irrefl]
theorem y4 (r:(List al)) (hh:dD []=some r):aQ (.fresh 87 5) tab aS FU Tryz.f63 none [.sl true false 0 []]=some (.fresh 87 5 r.length (ab aq r),none):=by
 unfold dD at hh
 obtain⟨qa,qb,qc⟩:=qU hh
 subst qa
 refine av rfl Tryz.ntmps63 Tryz.results63 ?_
 simp only[w,seval,-Int.reduceToNat,Nat.lt_irrefl]
theorem y5 (p0 r:(List al)) (hp:0<p0.length) (hh:dD p0=some r):aQ (.fresh 87 5) tab aS FU Tryz.f63 none [.sl false false p0.length (ab aq p0)]=some (.fresh 87 5 r.length (ab aq r),none):=by
 unfold dD at hh
 have hz:¬p0.length=0:=by omega
 obtain⟨qa,qb,qc⟩:=qU hh
 subst qa
 refine av rfl Tryz.ntmps63 Tryz.results63 ?_
 simp only[w,seval,-Int.reduceToNat,hp,hz,qb,qc]
noncomputable def kL:=eL (dJ (iE aq)) (fun x:(List al)=>dD x) (fun r:(List al) =>.fresh 87 5 r.length (ab aq r))
theorem ll (p0:(List al)):kL none [.sl false false p0.length (ab aq p0)]=(dD p0).map fun r:(List al)=>(.fresh 87 5 r.length (ab aq r),none):=aK _ _ _ p0
theorem sE:bH Tryz.prog 63 kL:=bH.Wp (mode:=(.fresh 87 5)) tok bN.none mixed Tryz.func63 (by kernel_rfl) ⟨by kernel_rfl,by kernel_rfl⟩ (Nat.le_of_ble_eq_true (by kernel_rfl)) y3 y4 y5
noncomputable def S4:List D→List D→Option (List D):=qo aq (dJ (cJ aq)) Iw
theorem X4:Bl Tryz.prog 64 ⟨87,5,48,S4⟩:=WO aq al.mk (fun _ _ _ _ _=>rfl) (fun x=>⟨_,_,_,_,_,rfl⟩)
theorem wZ (l:List al) (p1_0:ByteArray) (p1_1:Int) (p1_2:Int) (p1_3:Int) (p1_4:Int) {z:List al} (h:lS l (al.mk p1_0 p1_1 p1_2 p1_3 p1_4)=some z):∃cs,S4 (ab aq l) [.agg [.str p1_0,.int .i64 p1_1,.int .i64 p1_2,.int .i64 p1_3,.int .i64 p1_4]]=some cs∧ab aq l++cs=ab aq z∧l.length+1=z.length∧z.length*48≤140737488355328:=JX aq (A:=(dJ (cJ aq))) (F:=Iw) (b:=(al.mk p1_0 p1_1 p1_2 p1_3 p1_4)) h
theorem vD (r:(List Int)) (hh:bk []=some r):aQ (.fresh 3 1) tab aS FU Tryz.f65 none [.sl true true 0 []]=some (.fresh 3 1 r.length (ab (eI .i64) r),none):=by
 unfold bk at hh
 obtain⟨qa,qb,qc⟩:=qU hh
 subst qa
 refine av rfl Tryz.ntmps65 Tryz.results65 ?_
 simp only[w,seval,-Int.reduceToNat,Nat.lt_irrefl]
theorem vE (r:(List Int)) (hh:bk []=some r):aQ (.fresh 3 1) tab aS FU Tryz.f65 none [.sl true false 0 []]=some (.fresh 3 1 r.length (ab (eI .i64) r),none):=by
 unfold bk at hh
 obtain⟨qa,qb,qc⟩:=qU hh
 subst qa
 refine av rfl Tryz.ntmps65 Tryz.results65 ?_
 simp only[w,seval,-Int.reduceToNat,Nat.lt_irrefl]
theorem vF (p0 r:(List Int)) (hp:0<p0.length) (hh:bk p0=some r):aQ (.fresh 3 1) tab aS FU Tryz.f65 none [.sl false false p0.length (ab (eI .i64) p0)]=some (.fresh 3 1 r.length (ab (eI .i64) r),none):=by
 unfold bk at hh
 have hz:¬p0.length=0:=by omega
 obtain⟨qa,qb,qc⟩:=qU hh
 subst qa
 refine av rfl Tryz.ntmps65 Tryz.results65 ?_
 simp only[w,seval,-Int.reduceToNat,hp,hz,qb,qc]
noncomputable def dI:=eL (dJ (iE (eI .i64))) (fun x:(List Int)=>bk x) (fun r:(List Int) =>.fresh 3 1 r.length (ab (eI .i64) r))
theorem ck (p0:(List Int)):dI none [.sl false false p0.length (ab (eI .i64) p0)]=(bk p0).map fun r:(List Int)=>(.fresh 3 1 r.length (ab (eI .i64) r),none):=aK _ _ _ p0
theorem eT:bH Tryz.prog 65 dI:=bH.Wp (mode:=(.fresh 3 1)) tok bN.none mixed Tryz.func65 (by kernel_rfl) ⟨by kernel_rfl,by kernel_rfl⟩ (Nat.le_of_ble_eq_true (by kernel_rfl)) vD vE vF
noncomputable def S5:List D→List D→Option (List D):=qo aq (ec (aI .i64) (dJ (aI .i64))) (z7 al.mk (fun x=>x.aJ) (fun x=>x.aM))
theorem X5:Bl Tryz.prog 66 ⟨87,5,48,S5⟩:=VC aq al.mk (fun _ _ _ _ _=>rfl) (fun x=>⟨_,_,_,_,_,rfl⟩) (fun x=>x.aJ) (fun x=>x.aM) (fun _ _ _ _ _=>rfl) (fun _ _ _ _ _=>rfl)
theorem vI (l:List al) (p1:Int) (p2:Int) {z:List al} (h:jb l p1 p2=some z):∃cs,S5 (ab aq l) [.int .i64 p1,.int .i64 p2]=some cs∧ab aq l++cs=ab aq z∧l.length+1=z.length∧z.length*48≤140737488355328:=JX aq (A:=(ec (aI .i64) (dJ (aI .i64)))) (F:=(z7 al.mk (fun x=>x.aJ) (fun x=>x.aM))) (b:=(p1,p2)) h
noncomputable def nq:=eL (ec (cJ ep) (ec (iE fX) (ec (iE (eI .i64)) (dJ (iE (eI .i64)))))) (fun x:ax×(List ByteArray)×(List Int)×(List Int)=>iA x.1 x.2.1 x.2.2.1 x.2.2.2) (fun r:ax×Int×(List Int)×Int =>.clean (.tup [.agg [.sl false false r.1.ah.length (ab aq r.1.ah)],.int .i64 r.2.1,.sl false false r.2.2.1.length (ab (eI .i64) r.2.2.1),.int .i64 r.2.2.2]))
theorem lp (p0_0:(List al)) (p1:(List ByteArray)) (p2:(List Int)) (p3:(List Int)):nq none [.agg [.sl false false p0_0.length (ab aq p0_0)],.sl false false p1.length (ab fX p1),.sl false false p2.length (ab (eI .i64) p2),.sl false false p3.length (ab (eI .i64) p3)]=(iA (ax.mk p0_0) p1 p2 p3).map fun r:ax×Int×(List Int)×Int=>(.clean (.tup [.agg [.sl false false r.1.ah.length (ab aq r.1.ah)],.int .i64 r.2.1,.sl false false r.2.2.1.length (ab (eI .i64) r.2.2.1),.int .i64 r.2.2.2]),none):=aK _ _ _ ((ax.mk p0_0),p1,p2,p3)
noncomputable def nH:Env:=(Am.keep 82 (Am.keep 81 (Am.vX 14 1000014 (Am.yX 66 ⟨87,5,48,S5⟩ (Am.ext (Am.yX 64 ⟨87,5,48,S4⟩ (Am.ext (Am.ext (Am.ext aS 39 false fF) 62 false s9) 63 false kL)) 65 false dI)))))
theorem D9:bN Tryz.prog nH:=(bN.keep (bN.keep (bN.vX (bN.yX ((bN.yX (((bN.none.add gS false).add H0 false).add sE false) X4).add eT false) X5) 14 1000014) 81) 82)
theorem aw:type_of% (ai @w<|ai @cU<|ai @Ai<|ai @ll<|ai @ck<|@nH.eq_1):=⟨@w,@cU,@Ai,@ll,@ck,@nH.eq_1⟩
theorem HF (p0:ax) (p1:(List ByteArray)) (p2:(List Int)) (p3:(List Int)) (r:ax×Int×(List Int)×Int) (hh:iA p0 p1 p2 p3=some r):aQ .clean tab nH FU Tryz.f37 none [.agg [.sl false false p0.ah.length (ab aq p0.ah)],.sl false false p1.length (ab fX p1),.sl false false p2.length (ab (eI .i64) p2),.sl false false p3.length (ab (eI .i64) p3)]=some (.clean (.tup [.agg [.sl false false r.1.ah.length (ab aq r.1.ah)],.int .i64 r.2.1,.sl false false r.2.2.1.length (ab (eI .i64) r.2.2.1),.int .i64 r.2.2.2]),none):=by
 refine av rfl Tryz.ntmps37 Tryz.results37 ?_
 unfold iA at hh
 obtain⟨r1,hr1,hh⟩:=ae hh
 try simp only[aw,ne_eq,not_false_eq_true,seval,-Int.reduceToNat,hr1]
 obtain⟨o2,ho2,hh⟩:=ae hh
 refine bD 0 (fun s t H e=>match s with|s39j1=>∃v4j1:Nat,∃v8j1:Nat,∃v10j1:Nat,t 1=.sl false false p1.length (ab fX p1)∧t 2=.sl false false p2.length (ab (eI .i64) p2)∧t 3=.sl false false p3.length (ab (eI .i64) p3)∧t 4=.ptr 4 v4j1 0∧t 8=.ptr 8 v8j1 0∧t 10=.buf 10 v10j1 1 0 0∧t 12=.int .i64 (p1.length:Int)∧t 39=.bool s39j1∧H 4=some ⟨v4j1,24,[.sl false false p0.ah.length (ab aq p0.ah)],false,false,false⟩∧H 8=some ⟨v8j1,24,[.sl true true 0 []],false,false,false⟩∧H 10=some ⟨v10j1,3,[],false,true,false⟩) (fun s=>s=o2) ?_ ?_
 ·rintro s39j1 t H e ⟨v4j1,v8j1,v10j1,Zj1⟩ rfl
  try dsimp only at hh
  try simp only[aw,ne_eq,not_false_eq_true,seval,-Int.reduceToNat,hr1,Zj1]
  refine sp aj hh (fun _ hh =>?_) (fun _ hh =>?_)
  ·cases hh
   try simp only[aw,ne_eq,not_false_eq_true,seval,-Int.reduceToNat,hr1,Zj1]
  ·try simp only[aw,ne_eq,not_false_eq_true,seval,-Int.reduceToNat,hr1,Zj1]
   obtain⟨o12,ho12,hh⟩:=ae hh
   refine aA (fun s t H e=>match s with|s43b=>∃v4b:Nat,∃v8b:Nat,∃v10b:Nat,t 1=.sl false false p1.length (ab fX p1)∧t 2=.sl false false p2.length (ab (eI .i64) p2)∧t 3=.sl false false p3.length (ab (eI .i64) p3)∧t 4=.ptr 4 v4b 0∧t 8=.ptr 8 v8b 0∧t 10=.buf 10 v10b 1 0 0∧t 12=.int .i64 (p1.length:Int)∧t 42=.int .i64 (p1.length:Int)∧t 43=.int .i64 s43b∧H 4=some ⟨v4b,24,[.sl false false p0.ah.length (ab aq p0.ah)],false,false,false⟩∧H 8=some ⟨v8b,24,[.sl true true 0 []],false,false,false⟩∧H 10=some ⟨v10b,3,[],false,true,false⟩) (fun o x t H e=>match o with|(.inl _)=>x=.exit 0∧∃v4bx:Nat,∃v8bx:Nat,∃v10bx:Nat,t 1=.sl false false p1.length (ab fX p1)∧t 2=.sl false false p2.length (ab (eI .i64) p2)∧t 3=.sl false false p3.length (ab (eI .i64) p3)∧t 4=.ptr 4 v4bx 0∧t 8=.ptr 8 v8bx 0∧t 10=.buf 10 v10bx 1 0 0∧t 12=.int .i64 (p1.length:Int)∧H 4=some ⟨v4bx,24,[.sl false false p0.ah.length (ab aq p0.ah)],false,false,false⟩∧H 8=some ⟨v8bx,24,[.sl true true 0 []],false,false,false⟩∧H 10=some ⟨v10bx,3,[],false,true,false⟩|(.inr r)=>x=.ret∧gW .clean tab none [.cell 8 24,.tmp 9,.tmp 10,.tmp 11] ⟨t,H,e⟩=some (.clean (.tup [.agg [.sl false false r.1.ah.length (ab aq r.1.ah)],.int .i64 r.2.1,.sl false false r.2.2.1.length (ab (eI .i64) r.2.2.1),.int .i64 r.2.2.2]),none)) ho12 ?_ ?_ ?_
   ·refine⟨v4j1,v8j1,v10j1,?_,?_,?_,?_,?_,?_,?_,?_,?_,?_,?_,?_⟩
    all_goals first|rfl|(simp only[aw,ne_eq,not_false_eq_true,seval,-Int.reduceToNat,hr1,Zj1]<;>rfl)
   ·rintro s43b t H e ⟨v4b,v8b,v10b,Zb⟩ c hh
    simp only[jU]at hh
    try simp only[aw,ne_eq,not_false_eq_true,seval,-Int.reduceToNat,hr1,Zb]
    refine sp aj hh (fun _ hh =>?_) (fun _ hh =>?_)
    ·obtain⟨x14,hx14,hh⟩:=ae hh
     have ax14:=bG fX hx14
     simp only[bU]at ax14
     obtain⟨x15,hx15,hh⟩:=ae hh
     have ax15:=bG (eI .i64) hx15
     simp only[bU]at ax15
     obtain⟨x16,hx16,hh⟩:=ae hh
     have ax16:=bG (eI .i64) hx16
     simp only[bU]at ax16
     obtain⟨r17,hr17,hh⟩:=ae hh
     have i18:=cU ([r17])
     simp only[aP,bU,List.length_cons,List.length_nil,Nat.zero_add,Nat.reduceAdd,List.length_set]at i18
     obtain⟨r19,hr19,hh⟩:=ae hh
     try simp only[aw,ne_eq,not_false_eq_true,seval,-Int.reduceToNat,hr1,Zb,ax14,ax15,ax16,hr17,i18,hr19]
     refine bI (by kernel_rfl) ?_
     try simp only[aw,ne_eq,not_false_eq_true,seval,-Int.reduceToNat,hr1,Zb,ax14,ax15,ax16,hr17,i18,hr19]
     refine sp aj hh (fun _ hh =>?_) (fun _ hh =>?_)
     ·cases hh
      try simp only[aw,ne_eq,not_false_eq_true,seval,-Int.reduceToNat,hr1,Zb,ax14,ax15,ax16,hr17,i18,hr19]
      refine yZ ⟨rfl,?_⟩
      try simp only[aw,ne_eq,not_false_eq_true,seval,-Int.reduceToNat,hr1,Zb,ax14,ax15,ax16,hr17,i18,hr19]
     ·cases hh
      try simp only[aw,ne_eq,not_false_eq_true,seval,-Int.reduceToNat,hr1,Zb,ax14,ax15,ax16,hr17,i18,hr19]
      refine jB ?_
      refine⟨v4b,v8b,v10b,?_,?_,?_,?_,?_,?_,?_,?_,?_,?_,?_,?_⟩
      all_goals first|rfl|(simp only[aw,ne_eq,not_false_eq_true,seval,-Int.reduceToNat,hr1,Zb,ax14,ax15,ax16,hr17,i18,hr19]<;>rfl)
    ·cases hh
     try simp only[aw,ne_eq,not_false_eq_true,seval,-Int.reduceToNat,hr1,Zb]
     refine kH ?_
     refine⟨rfl,⟨v4b,v8b,v10b,?_,?_,?_,?_,?_,?_,?_,?_,?_,?_⟩⟩
     all_goals first|rfl|(simp only[aw,ne_eq,not_false_eq_true,seval,-Int.reduceToNat,hr1,Zb]<;>rfl)
   ·rintro x t H e hx
    rcases o12 with _|rb
    ·dsimp only at hx hh
     obtain⟨rfl,⟨v4bx,v8bx,v10bx,Zbx⟩⟩:=hx
     try simp only[aw,ne_eq,not_false_eq_true,seval,-Int.reduceToNat,hr1,Zbx]
     obtain⟨o21,ho21,hh⟩:=ae hh
     refine bD 0 (fun s t H e=>match s with|s76j3=>∃v4j3:Nat,∃v8j3:Nat,∃v10j3:Nat,t 1=.sl false false p1.length (ab fX p1)∧t 2=.sl false false p2.length (ab (eI .i64) p2)∧t 3=.sl false false p3.length (ab (eI .i64) p3)∧t 4=.ptr 4 v4j3 0∧t 8=.ptr 8 v8j3 0∧t 10=.buf 10 v10j3 1 0 0∧t 76=.bool s76j3∧H 4=some ⟨v4j3,24,[.sl false false p0.ah.length (ab aq p0.ah)],false,false,false⟩∧H 8=some ⟨v8j3,24,[.sl true true 0 []],false,false,false⟩∧H 10=some ⟨v10j3,3,[],false,true,false⟩) (fun s=>s=o21) ?_ ?_
     ·rintro s76j3 t H e ⟨v4j3,v8j3,v10j3,Zj3⟩ rfl
      try dsimp only at hh
      try simp only[aw,ne_eq,not_false_eq_true,seval,-Int.reduceToNat,hr1,Zj3]
      refine sp aj hh (fun _ hh =>?_) (fun _ hh =>?_)
      ·cases hh
       try simp only[aw,ne_eq,not_false_eq_true,seval,-Int.reduceToNat,hr1,Zj3]
      ·obtain⟨r23,hr23,hh⟩:=ae hh
       try simp only[aw,ne_eq,not_false_eq_true,seval,-Int.reduceToNat,hr1,Zj3,hr23]
       obtain⟨o33,ho33,hh⟩:=ae hh
       refine aA (fun s t H e=>match s with|(s85d,l10d,l1000014d)=>∃v8d:Nat,∃v10d:Nat,∃v14d:Nat,∃v1000014d:Nat,t 1=.sl false false p1.length (ab fX p1)∧t 2=.sl false false p2.length (ab (eI .i64) p2)∧t 3=.sl false false p3.length (ab (eI .i64) p3)∧t 8=.ptr 8 v8d 0∧t 10=.buf 10 v10d 1 0 (l10d).length∧t 14=.pm 14 v14d 1000014∧t 84=.int .i64 (p1.length:Int)∧t 85=.int .i64 s85d∧H 8=some ⟨v8d,24,[.sl true true 0 []],false,false,false⟩∧H 10=some ⟨v10d,3,ab (eI .i64) l10d,false,true,false⟩∧H 14=some ⟨v14d,110,[.ph 1000014 5 ((l1000014d).length)],false,false,true⟩∧H 1000014=some ⟨v1000014d,87,ab aq l1000014d,false,true,false⟩) (fun o x t H e=>match o with|(l10dx,l1000014dx)=>x=.exit 2∧∃v8dx:Nat,∃v10dx:Nat,∃v14dx:Nat,∃v1000014dx:Nat,t 8=.ptr 8 v8dx 0∧t 10=.buf 10 v10dx 1 0 (l10dx).length∧t 14=.pm 14 v14dx 1000014∧H 8=some ⟨v8dx,24,[.sl true true 0 []],false,false,false⟩∧H 10=some ⟨v10dx,3,ab (eI .i64) l10dx,false,true,false⟩∧H 14=some ⟨v14dx,110,[.ph 1000014 5 ((l1000014dx).length)],false,false,true⟩∧H 1000014=some ⟨v1000014dx,87,ab aq l1000014dx,false,true,false⟩) ho33 ?_ ?_ ?_
       ·refine⟨v8j3,v10j3,e,0,?_,?_,?_,?_,?_,?_,?_,?_,?_,?_,?_,?_⟩
        all_goals first|rfl|(simp only[aw,ne_eq,not_false_eq_true,seval,-Int.reduceToNat,hr1,Zj3,hr23]<;>rfl)
       ·rintro⟨s85d,l10d,l1000014d⟩ t H e ⟨v8d,v10d,v14d,v1000014d,Zd⟩ c hh
        simp only[iS]at hh
        try simp only[aw,ne_eq,not_false_eq_true,seval,-Int.reduceToNat,hr1,hr23,Zd]
        refine sp aj hh (fun _ hh =>?_) (fun _ hh =>?_)
        ·obtain⟨x35,hx35,hh⟩:=ae hh
         have ax35:=bG fX hx35
         simp only[bU]at ax35
         obtain⟨x36,hx36,hh⟩:=ae hh
         have ax36:=bG (eI .i64) hx36
         simp only[bU]at ax36
         obtain⟨x37,hx37,hh⟩:=ae hh
         have ax37:=bG (eI .i64) hx37
         simp only[bU]at ax37
         obtain⟨r38,hr38,hh⟩:=ae hh
         obtain⟨x39,hx39,hh⟩:=ae hh
         obtain⟨q40w,q40a,q40b,q40c,q40d⟩:=wZ l1000014d r38.cI r38.aJ r38.aM r38.bn r38.bg hx39
         try simp only[bU]at q40a
         obtain⟨x41,hx41,hh⟩:=ae hh
         obtain⟨q42a,q42b,q42c,q42d⟩:=fi (eI .i64) hx41
         simp only[bU]at q42b
         try simp only[aw,ne_eq,not_false_eq_true,seval,-Int.reduceToNat,hr1,hr23,Zd,ax35,ax36,ax37,hr38,q40a,q40b,q40c,q40d,q42a,q42b,q42c,q42d]
         refine bI (by kernel_rfl) ?_
         cases hh
         try simp only[aw,ne_eq,not_false_eq_true,seval,-Int.reduceToNat,hr1,hr23,Zd,ax35,ax36,ax37,hr38,q40a,q40b,q40c,q40d,q42a,q42b,q42c,q42d]
         refine jB ?_
         refine⟨v8d,e+1+1,v14d,v1000014d,?_,?_,?_,?_,?_,?_,?_,?_,?_,?_,?_,?_⟩
         all_goals first|rfl|(simp only[aw,ne_eq,not_false_eq_true,seval,-Int.reduceToNat,hr1,hr23,Zd,ax35,ax36,ax37,hr38,q40a,q40b,q40c,q40d,q42a,q42b,q42c,q42d]<;>rfl)
        ·cases hh
         try simp only[aw,ne_eq,not_false_eq_true,seval,-Int.reduceToNat,hr1,hr23,Zd]
         refine kH ?_
         refine⟨rfl,⟨v8d,v10d,v14d,v1000014d,?_,?_,?_,?_,?_,?_,?_⟩⟩
         all_goals first|rfl|(simp only[aw,ne_eq,not_false_eq_true,seval,-Int.reduceToNat,hr1,hr23,Zd]<;>rfl)
       ·rintro x t H e hx
        rcases o33 with⟨l10dx,l1000014dx⟩
        dsimp only at hx hh
        obtain⟨rfl,⟨v8dx,v10dx,v14dx,v1000014dx,Zdx⟩⟩:=hx
        obtain⟨r43,hr43,hh⟩:=ae hh
        try simp only[aw,ne_eq,not_false_eq_true,seval,-Int.reduceToNat,hr1,hr23,Zdx,hr43]
        obtain⟨o66,ho66,hh⟩:=ae hh
        refine aA (fun s t H e=>match s with|(l16e,l1000014e)=>∃v8e:Nat,∃v10e:Nat,∃v14e:Nat,∃v16e:Nat,∃v1000014e:Nat,t 8=.ptr 8 v8e 0∧t 10=.buf 10 v10e 1 0 (l10dx).length∧t 14=.pm 14 v14e 1000014∧t 16=.buf 16 v16e 1 0 (l16e).length∧H 8=some ⟨v8e,24,[.sl true true 0 []],false,false,false⟩∧H 10=some ⟨v10e,3,ab (eI .i64) l10dx,false,true,false⟩∧H 14=some ⟨v14e,110,[.ph 1000014 5 ((l1000014e).length)],false,false,true⟩∧H 16=some ⟨v16e,3,ab (eI .i64) l16e,false,true,false⟩∧H 1000014=some ⟨v1000014e,87,ab aq l1000014e,false,true,false⟩) (fun o x t H e=>match o with|(l16ex,l1000014ex)=>x=.exit 4∧∃v8ex:Nat,∃v10ex:Nat,∃v14ex:Nat,∃v16ex:Nat,∃v1000014ex:Nat,t 8=.ptr 8 v8ex 0∧t 10=.buf 10 v10ex 1 0 (l10dx).length∧t 14=.pm 14 v14ex 1000014∧t 16=.buf 16 v16ex 1 0 (l16ex).length∧H 8=some ⟨v8ex,24,[.sl true true 0 []],false,false,false⟩∧H 10=some ⟨v10ex,3,ab (eI .i64) l10dx,false,true,false⟩∧H 14=some ⟨v14ex,110,[.ph 1000014 5 ((l1000014ex).length)],false,false,true⟩∧H 16=some ⟨v16ex,3,ab (eI .i64) l16ex,false,true,false⟩∧H 1000014=some ⟨v1000014ex,87,ab aq l1000014ex,false,true,false⟩) ho66 ?_ ?_ ?_
        ·refine⟨v8dx,v10dx,v14dx,e,v1000014dx,?_,?_,?_,?_,?_,?_,?_,?_,?_⟩
         all_goals first|rfl|(simp only[aw,ne_eq,not_false_eq_true,seval,-Int.reduceToNat,hr1,hr23,Zdx,hr43]<;>rfl)
        ·rintro⟨l16e,l1000014e⟩ t H e ⟨v8e,v10e,v14e,v16e,v1000014e,Ze⟩ c hh
         simp only[gJ]at hh
         try simp only[aw,ne_eq,not_false_eq_true,seval,-Int.reduceToNat,hr1,hr23,hr43,Ze]
         refine sp aj hh (fun _ hh =>?_) (fun _ hh =>?_)
         ·try simp only[aw,ne_eq,not_false_eq_true,seval,-Int.reduceToNat,hr1,hr23,hr43,Ze]
          obtain⟨o75,ho75,hh⟩:=ae hh
          refine aA (fun s t H e=>match s with|(s18g,l17g,l1000014g)=>∃v8g:Nat,∃v10g:Nat,∃v14g:Nat,∃v16g:Nat,∃v17g:Nat,∃v1000014g:Nat,t 8=.ptr 8 v8g 0∧t 10=.buf 10 v10g 1 0 (l10dx).length∧t 14=.pm 14 v14g 1000014∧t 16=.buf 16 v16g 1 0 (l16e).length∧t 17=.buf 17 v17g 1 0 (l17g).length∧t 18=.int .i64 s18g∧H 8=some ⟨v8g,24,[.sl true true 0 []],false,false,false⟩∧H 10=some ⟨v10g,3,ab (eI .i64) l10dx,false,true,false⟩∧H 14=some ⟨v14g,110,[.ph 1000014 5 ((l1000014g).length)],false,false,true⟩∧H 16=some ⟨v16g,3,ab (eI .i64) l16e,false,true,false⟩∧H 17=some ⟨v17g,3,ab (eI .i64) l17g,false,true,false⟩∧H 1000014=some ⟨v1000014g,87,ab aq l1000014g,false,true,false⟩) (fun o x t H e=>match o with|(l17gx,l1000014gx)=>x=.exit 6∧∃v8gx:Nat,∃v10gx:Nat,∃v14gx:Nat,∃v16gx:Nat,∃v17gx:Nat,∃v1000014gx:Nat,t 8=.ptr 8 v8gx 0∧t 10=.buf 10 v10gx 1 0 (l10dx).length∧t 14=.pm 14 v14gx 1000014∧t 16=.buf 16 v16gx 1 0 (l16e).length∧t 17=.buf 17 v17gx 1 0 (l17gx).length∧H 8=some ⟨v8gx,24,[.sl true true 0 []],false,false,false⟩∧H 10=some ⟨v10gx,3,ab (eI .i64) l10dx,false,true,false⟩∧H 14=some ⟨v14gx,110,[.ph 1000014 5 ((l1000014gx).length)],false,false,true⟩∧H 16=some ⟨v16gx,3,ab (eI .i64) l16e,false,true,false⟩∧H 17=some ⟨v17gx,3,ab (eI .i64) l17gx,false,true,false⟩∧H 1000014=some ⟨v1000014gx,87,ab aq l1000014gx,false,true,false⟩) ho75 ?_ ?_ ?_
          ·refine⟨v8e,v10e,v14e,v16e,e+1,v1000014e,?_,?_,?_,?_,?_,?_,?_,?_,?_,?_,?_,?_⟩
           all_goals first|rfl|(simp only[aw,ne_eq,not_false_eq_true,seval,-Int.reduceToNat,hr1,hr23,hr43,Ze]<;>rfl)
          ·rintro⟨s18g,l17g,l1000014g⟩ t H e ⟨v8g,v10g,v14g,v16g,v17g,v1000014g,Zg⟩ c hh
           simp only[iT]at hh
           try simp only[aw,ne_eq,not_false_eq_true,seval,-Int.reduceToNat,hr1,hr23,hr43,Zg]
           refine sp aj hh (fun _ hh =>?_) (fun _ hh =>?_)
           ·obtain⟨x77,hx77,hh⟩:=ae hh
            have ax77:=bG (eI .i64) hx77
            simp only[bU]at ax77
            obtain⟨x78,hx78,hh⟩:=ae hh
            have ax78:=bG (eI .i64) hx78
            simp only[bU]at ax78
            obtain⟨x79,hx79,hh⟩:=ae hh
            obtain⟨q80w,q80a,q80b,q80c,q80d⟩:=vI l1000014g x77 x78 hx79
            try simp only[bU]at q80a
            obtain⟨x81,hx81,hh⟩:=ae hh
            obtain⟨q82a,q82b,q82c,q82d⟩:=fi (eI .i64) hx81
            simp only[bU]at q82b
            try simp only[aw,ne_eq,not_false_eq_true,seval,-Int.reduceToNat,hr1,hr23,hr43,Zg,ax77,ax78,q80a,q80b,q80c,q80d,q82a,q82b,q82c,q82d]
            refine bI (by kernel_rfl) ?_
            cases hh
            try simp only[aw,ne_eq,not_false_eq_true,seval,-Int.reduceToNat,hr1,hr23,hr43,Zg,ax77,ax78,q80a,q80b,q80c,q80d,q82a,q82b,q82c,q82d]
            refine jB ?_
            refine⟨v8g,v10g,v14g,v16g,e+1,v1000014g,?_,?_,?_,?_,?_,?_,?_,?_,?_,?_,?_,?_⟩
            all_goals first|rfl|(simp only[aw,ne_eq,not_false_eq_true,seval,-Int.reduceToNat,hr1,hr23,hr43,Zg,ax77,ax78,q80a,q80b,q80c,q80d,q82a,q82b,q82c,q82d]<;>rfl)
           ·cases hh
            try simp only[aw,ne_eq,not_false_eq_true,seval,-Int.reduceToNat,hr1,hr23,hr43,Zg]
            refine kH ?_
            refine⟨rfl,⟨v8g,v10g,v14g,v16g,v17g,v1000014g,?_,?_,?_,?_,?_,?_,?_,?_,?_,?_,?_⟩⟩
            all_goals first|rfl|(simp only[aw,ne_eq,not_false_eq_true,seval,-Int.reduceToNat,hr1,hr23,hr43,Zg]<;>rfl)
          ·rintro x t H e hx
           rcases o75 with⟨l17gx,l1000014gx⟩
           dsimp only at hx hh
           obtain⟨rfl,⟨v8gx,v10gx,v14gx,v16gx,v17gx,v1000014gx,Zgx⟩⟩:=hx
           obtain⟨x83,hx83,hh⟩:=ae hh
           have q84:=rL hx83
           try simp only[aw,ne_eq,not_false_eq_true,seval,-Int.reduceToNat,hr1,hr23,hr43,Zgx,q84]
           refine sp aj hh (fun _ hh =>?_) (fun _ hh =>?_)
           ·obtain⟨x86,hx86,hh⟩:=ae hh
            have ax86:=bG (eI .i64) hx86
            simp only[bU]at ax86
            obtain⟨x87,hx87,hh⟩:=ae hh
            obtain⟨q88a,q88b,q88c,q88d⟩:=fi (eI .i64) hx87
            simp only[bU]at q88b
            cases hh
            try simp only[aw,ne_eq,not_false_eq_true,seval,-Int.reduceToNat,hr1,hr23,hr43,Zgx,q84,ax86,q88a,q88b,q88c,q88d]
            refine jB ?_
            refine⟨v8gx,v10gx,v14gx,e+1+1,v1000014gx,?_,?_,?_,?_,?_,?_,?_,?_,?_⟩
            all_goals first|rfl|(simp only[aw,ne_eq,not_false_eq_true,seval,-Int.reduceToNat,hr1,hr23,hr43,Zgx,q84,ax86,q88a,q88b,q88c,q88d]<;>rfl)
           ·cases hh
            try simp only[aw,ne_eq,not_false_eq_true,seval,-Int.reduceToNat,hr1,hr23,hr43,Zgx,q84]
            refine jB ?_
            refine⟨v8gx,v10gx,v14gx,e+1,v1000014gx,?_,?_,?_,?_,?_,?_,?_,?_,?_⟩
            all_goals first|rfl|(simp only[aw,ne_eq,not_false_eq_true,seval,-Int.reduceToNat,hr1,hr23,hr43,Zgx,q84]<;>rfl)
         ·cases hh
          try simp only[aw,ne_eq,not_false_eq_true,seval,-Int.reduceToNat,hr1,hr23,hr43,Ze]
          refine kH ?_
          refine⟨rfl,⟨v8e,v10e,v14e,v16e,v1000014e,?_,?_,?_,?_,?_,?_,?_,?_,?_⟩⟩
          all_goals first|rfl|(simp only[aw,ne_eq,not_false_eq_true,seval,-Int.reduceToNat,hr1,hr23,hr43,Ze]<;>rfl)
        ·rintro x t H e hx
         rcases o66 with⟨l16ex,l1000014ex⟩
         dsimp only at hx hh
         obtain⟨rfl,⟨v8ex,v10ex,v14ex,v16ex,v1000014ex,Zex⟩⟩:=hx
         obtain⟨x89,hx89,hh⟩:=ae hh
         have ax89:=bG (eI .i64) hx89
         simp only[bU]at ax89
         try simp only[aw,ne_eq,not_false_eq_true,seval,-Int.reduceToNat,hr1,hr23,hr43,Zex,ax89]
         refine bI (by kernel_rfl) ?_
         cases hh
         try simp only[aw,ne_eq,not_false_eq_true,seval,-Int.reduceToNat,hr1,hr23,hr43,Zex,ax89]
     ·clear hh
      have hh:=ho21
      try simp only[aw,ne_eq,not_false_eq_true,seval,-Int.reduceToNat,hr1,Zbx]
      refine sp aU hh (fun _ hh =>?_) (fun _ hh =>?_)
      ·cases hh
       try simp only[aw,ne_eq,not_false_eq_true,seval,-Int.reduceToNat,hr1,Zbx]
       rw[ak]
       refine⟨_,rfl,?_⟩
       refine⟨v4bx,v8bx,v10bx,?_,?_,?_,?_,?_,?_,?_,?_,?_,?_⟩
       all_goals first|rfl|(simp only[aw,ne_eq,not_false_eq_true,seval,-Int.reduceToNat,hr1,Zbx]<;>rfl)
      ·cases hh
       try simp only[aw,ne_eq,not_false_eq_true,seval,-Int.reduceToNat,hr1,Zbx]
       rw[ak]
       refine⟨_,rfl,?_⟩
       refine⟨v4bx,v8bx,v10bx,?_,?_,?_,?_,?_,?_,?_,?_,?_,?_⟩
       all_goals first|rfl|(simp only[aw,ne_eq,not_false_eq_true,seval,-Int.reduceToNat,hr1,Zbx]<;>rfl)
    ·dsimp only at hx hh
     obtain⟨rfl,hE⟩:=hx
     cases hh
     try simp only[bq,bj,bF,dr,dq]
     exact hE
 ·clear hh
  have hh:=ho2
  try simp only[aw,ne_eq,not_false_eq_true,seval,-Int.reduceToNat,hr1]
  refine sp aU hh (fun _ hh =>?_) (fun _ hh =>?_)
  ·cases hh
   try simp only[aw,ne_eq,not_false_eq_true,seval,-Int.reduceToNat,hr1]
   rw[ak]
   refine⟨_,rfl,?_⟩
   refine⟨0,0,0,?_,?_,?_,?_,?_,?_,?_,?_,?_,?_,?_⟩
   all_goals first|rfl|(simp only[aw,ne_eq,not_false_eq_true,seval,-Int.reduceToNat,hr1]<;>rfl)
  ·try simp only[aw,ne_eq,not_false_eq_true,seval,-Int.reduceToNat,hr1]
   refine sp aU hh (fun _ hh =>?_) (fun _ hh =>?_)
   ·cases hh
    try simp only[aw,ne_eq,not_false_eq_true,seval,-Int.reduceToNat,hr1]
    rw[ak]
    refine⟨_,rfl,?_⟩
    refine⟨0,0,0,?_,?_,?_,?_,?_,?_,?_,?_,?_,?_,?_⟩
    all_goals first|rfl|(simp only[aw,ne_eq,not_false_eq_true,seval,-Int.reduceToNat,hr1]<;>rfl)
   ·try simp only[aw,ne_eq,not_false_eq_true,seval,-Int.reduceToNat,hr1]
    refine sp aU hh (fun _ hh =>?_) (fun _ hh =>?_)
    ·cases hh
     try simp only[aw,ne_eq,not_false_eq_true,seval,-Int.reduceToNat,hr1]
     rw[ak]
     refine⟨_,rfl,?_⟩
     refine⟨0,0,0,?_,?_,?_,?_,?_,?_,?_,?_,?_,?_,?_⟩
     all_goals first|rfl|(simp only[aw,ne_eq,not_false_eq_true,seval,-Int.reduceToNat,hr1]<;>rfl)
    ·cases hh
     try simp only[aw,ne_eq,not_false_eq_true,seval,-Int.reduceToNat,hr1]
     rw[ak]
     refine⟨_,rfl,?_⟩
     refine⟨0,0,0,?_,?_,?_,?_,?_,?_,?_,?_,?_,?_,?_⟩
     all_goals first|rfl|(simp only[aw,ne_eq,not_false_eq_true,seval,-Int.reduceToNat,hr1]<;>rfl)
theorem v7:bH Tryz.prog 37 nq:=bH.of (mode := .clean) tok D9 mixed Tryz.func37 (by kernel_rfl) ⟨by kernel_rfl,by kernel_rfl⟩ (fun _=>Nat.le_of_ble_eq_true (by kernel_rfl)) (fun x r h=>HF x.1 x.2.1 x.2.2.1 x.2.2.2 r h)
noncomputable def oq:=eL (ec (iE (eI .i64)) (dJ (iE (eI .i64)))) (fun x:(List Int)×(List Int)=>gB x.1 x.2) (fun r:Bool =>.clean (.bool r))
theorem lk (p0:(List Int)) (p1:(List Int)):oq none [.sl false false p0.length (ab (eI .i64) p0),.sl false false p1.length (ab (eI .i64) p1)]=(gB p0 p1).map fun r:Bool=>(.clean (.bool r),none):=aK _ _ _ (p0,p1)
theorem CO (p0:(List Int)) (p1:(List Int)) (r:Bool) (hh:gB p0 p1=some r):aQ .clean tab aS FU Tryz.f18 none [.sl false false p0.length (ab (eI .i64) p0),.sl false false p1.length (ab (eI .i64) p1)]=some (.clean (.bool r),none):=by
 refine av rfl Tryz.ntmps18 Tryz.results18 ?_
 unfold gB at hh
 try simp only[w,seval,-Int.reduceToNat]
 refine sp aj hh (fun _ hh =>?_) (fun _ hh =>?_)
 ·cases hh
  try simp only[w,seval,-Int.reduceToNat]
 ·try simp only[w,seval,-Int.reduceToNat]
  obtain⟨o6,ho6,hh⟩:=ae hh
  refine aA (fun s t H e=>match s with|s5a=>t 0=.sl false false p0.length (ab (eI .i64) p0)∧t 1=.sl false false p1.length (ab (eI .i64) p1)∧t 5=.int .i64 s5a) (fun o x t H e=>match o with|(.inl _)=>x=.exit 0|(.inr r)=>x=.ret∧gW .clean tab none [.tmp 4] ⟨t,H,e⟩=some (.clean (.bool r),none)) ho6 ?_ ?_ ?_
  ·refine⟨?_,?_,?_⟩
   all_goals first|rfl|(simp only[w,seval,-Int.reduceToNat]<;>rfl)
  ·rintro s5a t H e Za c hh
   simp only[sJ]at hh
   try simp only[w,seval,-Int.reduceToNat,Za]
   refine sp aj hh (fun _ hh =>?_) (fun _ hh =>?_)
   ·obtain⟨x8,hx8,hh⟩:=ae hh
    have ax8:=bG (eI .i64) hx8
    simp only[bU]at ax8
    obtain⟨x9,hx9,hh⟩:=ae hh
    have ax9:=bG (eI .i64) hx9
    simp only[bU]at ax9
    try simp only[w,seval,-Int.reduceToNat,Za,ax8,ax9]
    refine bI (by kernel_rfl) ?_
    try simp only[w,seval,-Int.reduceToNat,Za,ax8,ax9]
    refine sp aj hh (fun _ hh =>?_) (fun _ hh =>?_)
    ·cases hh
     try simp only[w,seval,-Int.reduceToNat,Za,ax8,ax9]
     refine yZ ⟨rfl,?_⟩
     try simp only[w,seval,-Int.reduceToNat,Za,ax8,ax9]
    ·cases hh
     try simp only[w,seval,-Int.reduceToNat,Za,ax8,ax9]
     refine jB ?_
     refine⟨?_,?_,?_⟩
     all_goals first|rfl|(simp only[w,seval,-Int.reduceToNat,Za,ax8,ax9]<;>rfl)
   ·cases hh
    try simp only[w,seval,-Int.reduceToNat,Za]
    refine kH ?_
    exact rfl
  ·rintro x t H e hx
   rcases o6 with _|ra
   ·dsimp only at hx hh
    subst hx
    cases hh
    try simp only[w,seval,-Int.reduceToNat]
   ·dsimp only at hx hh
    obtain⟨rfl,hE⟩:=hx
    cases hh
    try simp only[bq,bj,bF,dr,dq]
    exact hE
theorem AT:bH Tryz.prog 18 oq:=bH.of (mode := .clean) tok bN.none mixed Tryz.func18 (by kernel_rfl) ⟨by kernel_rfl,by kernel_rfl⟩ (fun _=>Nat.le_of_ble_eq_true (by kernel_rfl)) (fun x r h=>CO x.1 x.2 r h)
noncomputable def ka:=eL (dJ (iE (eI .i64))) (fun x:(List Int)=>gA x) (fun r:(List Int) =>.clean (.sl false false r.length (ab (eI .i64) r)))
theorem fV (p0:(List Int)):ka none [.sl false false p0.length (ab (eI .i64) p0)]=(gA p0).map fun r:(List Int)=>(.clean (.sl false false r.length (ab (eI .i64) r)),none):=aK _ _ _ (p0)
theorem M9 (p0:(List Int)) (r:(List Int)) (hh:gA p0=some r):aQ .clean tab aS FU Tryz.f169 none [.sl false false p0.length (ab (eI .i64) p0)]=some (.clean (.sl false false r.length (ab (eI .i64) r)),none):=by
 refine av rfl Tryz.ntmps169 Tryz.results169 ?_
 unfold gA at hh
 try simp only[w,seval,-Int.reduceToNat]
 obtain⟨o4,ho4,hh⟩:=ae hh
 refine aA (fun s t H e=>match s with|s3a=>t 0=.sl false false p0.length (ab (eI .i64) p0)∧t 3=.int .i64 s3a) (fun o x t H e=>match o with|s3ax=>x=.exit 0∧t 0=.sl false false p0.length (ab (eI .i64) p0)∧t 3=.int .i64 s3ax) ho4 ?_ ?_ ?_
 ·refine⟨?_,?_⟩
  all_goals first|rfl|(simp only[w,seval,-Int.reduceToNat]<;>rfl)
 ·rintro s3a t H e Za c hh
  simp only[uk]at hh
  try simp only[w,seval,-Int.reduceToNat,Za]
  refine sp bJ hh (fun _ hh =>?_) (fun _ hh =>?_)
  ·obtain⟨x6,hx6,hh⟩:=ae hh
   have ax6:=bG (eI .i64) hx6
   simp only[bU]at ax6
   try simp only[w,seval,-Int.reduceToNat,Za,ax6]
   refine sp aj hh (fun _ hh =>?_) (fun _ hh =>?_)
   ·cases hh
    try simp only[w,seval,-Int.reduceToNat,Za,ax6]
    refine jB ?_
    refine⟨?_,?_⟩
    all_goals first|rfl|(simp only[w,seval,-Int.reduceToNat,Za,ax6]<;>rfl)
   ·cases hh
    try simp only[w,seval,-Int.reduceToNat,Za,ax6]
    refine kH ?_
    refine⟨rfl,⟨?_,?_⟩⟩
    all_goals first|rfl|(simp only[w,seval,-Int.reduceToNat,Za,ax6]<;>rfl)
  ·cases hh
   try simp only[w,seval,-Int.reduceToNat,Za]
   refine kH ?_
   refine⟨rfl,⟨?_,?_⟩⟩
   all_goals first|rfl|(simp only[w,seval,-Int.reduceToNat,Za]<;>rfl)
 ·rintro x t H e hx
  obtain⟨s3ax,rfl⟩:∃z,z=o4:=⟨_,rfl⟩
  dsimp only at hx hh
  obtain⟨rfl,Zax⟩:=hx
  obtain⟨x8,hx8,hh⟩:=ae hh
  obtain⟨q9a,q9b,q9c,q9d,q9e⟩:=DB (eI .i64) hx8
  simp only[bU]at q9e
  obtain⟨x10,hx10,hh⟩:=ae hh
  obtain⟨q11a,q11b,q11c⟩:=qU hx10
  replace q11a:=q11a.symm
  subst q11a
  cases hh
  try simp only[w,seval,-Int.reduceToNat,Zax,q9a,q9b,q9c,q9d,q9e,q11b,q11c]
theorem mE:bH Tryz.prog 169 ka:=bH.of (mode := .clean) tok bN.none mixed Tryz.func169 (by kernel_rfl) ⟨by kernel_rfl,by kernel_rfl⟩ (fun _=>Nat.le_of_ble_eq_true (by kernel_rfl)) (fun x r h=>M9 x r h)
noncomputable def lH:=eL (ec (aI .i64) (dJ (iE (eI .i64)))) (fun x:Int×(List Int)=>fu x.1 x.2) (fun r:an =>.clean (.agg [.int .i64 r.ag,.sl false false r.aa.length (ab (eI .i64) r.aa)]))
theorem jj (p0:Int) (p1:(List Int)):lH none [.int .i64 p0,.sl false false p1.length (ab (eI .i64) p1)]=(fu p0 p1).map fun r:an=>(.clean (.agg [.int .i64 r.ag,.sl false false r.aa.length (ab (eI .i64) r.aa)]),none):=aK _ _ _ (p0,p1)
noncomputable def rC:Env:=(Am.ext aS 169 false ka)
theorem JS:bN Tryz.prog rC:=(bN.none.add mE false)
theorem xg:type_of% (ai @w<|ai @fV<|@rC.eq_1):=⟨@w,@fV,@rC.eq_1⟩
theorem M6 (p0:Int) (p1:(List Int)) (r:an) (hh:fu p0 p1=some r):aQ .clean tab rC FU Tryz.f133 none [.int .i64 p0,.sl false false p1.length (ab (eI .i64) p1)]=some (.clean (.agg [.int .i64 r.ag,.sl false false r.aa.length (ab (eI .i64) r.aa)]),none):=by
 refine av rfl Tryz.ntmps133 Tryz.results133 ?_
 unfold fu at hh
 obtain⟨r1,hr1,hh⟩:=ae hh
 try simp only[xg,seval,-Int.reduceToNat,hr1]
 refine sp aj hh (fun _ hh =>?_) (fun _ hh =>?_)
 ·cases hh
  try simp only[xg,seval,-Int.reduceToNat,hr1]
 ·cases hh
  try simp only[xg,seval,-Int.reduceToNat,hr1]
theorem pG:bH Tryz.prog 133 lH:=bH.of (mode := .clean) tok JS mixed Tryz.func133 (by kernel_rfl) ⟨by kernel_rfl,by kernel_rfl⟩ (fun _=>Nat.le_of_ble_eq_true (by kernel_rfl)) (fun x r h=>M6 x.1 x.2 r h)
noncomputable def Bi:=eL (dJ (aI .i64)) (fun x:Int=>rS x) (fun r:an =>.clean (.agg [.int .i64 r.ag,.sl false false r.aa.length (ab (eI .i64) r.aa)]))
theorem Lh (p0:Int):Bi none [.int .i64 p0]=(rS p0).map fun r:an=>(.clean (.agg [.int .i64 r.ag,.sl false false r.aa.length (ab (eI .i64) r.aa)]),none):=aK _ _ _ (p0)
noncomputable def xJ:Env:=(Am.ext aS 133 false lH)
theorem Qx:bN Tryz.prog xJ:=(bN.none.add pG false)
theorem eF:type_of% (ai @w<|ai @jj<|@xJ.eq_1):=⟨@w,@jj,@xJ.eq_1⟩
theorem Tl (p0:Int) (r:an) (hh:rS p0=some r):aQ .clean tab xJ FU Tryz.f103 none [.int .i64 p0]=some (.clean (.agg [.int .i64 r.ag,.sl false false r.aa.length (ab (eI .i64) r.aa)]),none):=by
 refine av rfl Tryz.ntmps103 Tryz.results103 ?_
 unfold rS at hh
 try simp only[eF,seval,-Int.reduceToNat]
 refine sp aj hh (fun _ hh =>?_) (fun _ hh =>?_)
 ·cases hh
  try simp only[eF,seval,-Int.reduceToNat]
 ·try simp only[eF,seval,-Int.reduceToNat]
  obtain⟨o2,ho2,hh⟩:=ae hh
  refine iK 0 (fun s t H e=>match s with|s3j1=>∃v2j1:Nat,t 0=.int .i64 p0∧t 2=.ptr 2 v2j1 0∧t 3=.int .i64 s3j1∧H 2=some ⟨v2j1,49,[.int .i64 0,.sl true true 0 []],false,false,false⟩) (fun s=>s=o2) ?_ ?_
  ·rintro s3j1 t H e ⟨v2j1,Zj1⟩ rfl
   try dsimp only at hh
   try simp only[eF,seval,-Int.reduceToNat,Zj1]
   obtain⟨o15,ho15,hh⟩:=ae hh
   refine aA (fun s t H e=>match s with|(s0b,l4b)=>∃v2b:Nat,∃v4b:Nat,t 0=.int .i64 s0b∧t 2=.ptr 2 v2b 0∧t 3=.int .i64 s3j1∧t 4=.buf 4 v4b 1 0 (l4b).length∧H 2=some ⟨v2b,49,[.int .i64 0,.sl true true 0 []],false,false,false⟩∧H 4=some ⟨v4b,3,ab (eI .i64) l4b,false,true,false⟩) (fun o x t H e=>match o with|l4bx=>x=.exit 0∧∃v2bx:Nat,∃v4bx:Nat,t 2=.ptr 2 v2bx 0∧t 3=.int .i64 s3j1∧t 4=.buf 4 v4bx 1 0 (l4bx).length∧H 2=some ⟨v2bx,49,[.int .i64 0,.sl true true 0 []],false,false,false⟩∧H 4=some ⟨v4bx,3,ab (eI .i64) l4bx,false,true,false⟩) ho15 ?_ ?_ ?_
   ·refine⟨v2j1,e,?_,?_,?_,?_,?_,?_⟩
    all_goals first|rfl|(simp only[eF,seval,-Int.reduceToNat,Zj1]<;>rfl)
   ·rintro⟨s0b,l4b⟩ t H e ⟨v2b,v4b,Zb⟩ c hh
    simp only[vn]at hh
    try simp only[eF,seval,-Int.reduceToNat,Zb]
    refine sp aj hh (fun _ hh =>?_) (fun _ hh =>?_)
    ·obtain⟨x17,hx17,hh⟩:=ae hh
     have q18:=rL hx17
     try simp only[eF,seval,-Int.reduceToNat,Zb,q18]
     refine sp aj hh (fun _ hh =>?_) (fun _ hh =>?_)
     ·obtain⟨x20,hx20,hh⟩:=ae hh
      obtain⟨q21a,q21b,q21c,q21d⟩:=fi (eI .i64) hx20
      simp only[bU]at q21b
      obtain⟨x22,hx22,hh⟩:=ae hh
      have q23:=rj hx22
      cases hh
      try simp only[eF,seval,-Int.reduceToNat,Zb,q18,q21a,q21b,q21c,q21d,q23]
      refine jB ?_
      refine⟨v2b,e+1+1+1+1,?_,?_,?_,?_,?_,?_⟩
      all_goals first|rfl|(simp only[eF,seval,-Int.reduceToNat,Zb,q18,q21a,q21b,q21c,q21d,q23]<;>rfl)
     ·obtain⟨x24,hx24,hh⟩:=ae hh
      obtain⟨q25a,q25b,q25c,q25d⟩:=fi (eI .i64) hx24
      simp only[bU]at q25b
      obtain⟨x26,hx26,hh⟩:=ae hh
      have q27:=rj hx26
      cases hh
      try simp only[eF,seval,-Int.reduceToNat,Zb,q18,q25a,q25b,q25c,q25d,q27]
      refine jB ?_
      refine⟨v2b,e+1+1+1,?_,?_,?_,?_,?_,?_⟩
      all_goals first|rfl|(simp only[eF,seval,-Int.reduceToNat,Zb,q18,q25a,q25b,q25c,q25d,q27]<;>rfl)
    ·cases hh
     try simp only[eF,seval,-Int.reduceToNat,Zb]
     refine kH ?_
     refine⟨rfl,⟨v2b,v4b,?_,?_,?_,?_,?_⟩⟩
     all_goals first|rfl|(simp only[eF,seval,-Int.reduceToNat,Zb]<;>rfl)
   ·rintro x t H e hx
    obtain⟨l4bx,rfl⟩:∃z,z=o15:=⟨_,rfl⟩
    dsimp only at hx hh
    obtain⟨rfl,⟨v2bx,v4bx,Zbx⟩⟩:=hx
    obtain⟨r28,hr28,hh⟩:=ae hh
    cases hh
    try simp only[eF,seval,-Int.reduceToNat,Zbx,hr28]
  ·clear hh
   have hh:=ho2
   try simp only[eF,seval,-Int.reduceToNat]
   refine sp aj hh (fun _ hh =>?_) (fun _ hh =>?_)
   ·cases hh
    try simp only[eF,seval,-Int.reduceToNat]
    rw[ak]
    refine⟨_,rfl,?_⟩
    refine⟨0,?_,?_,?_,?_⟩
    all_goals first|rfl|(simp only[eF,seval,-Int.reduceToNat]<;>rfl)
   ·cases hh
    try simp only[eF,seval,-Int.reduceToNat]
    rw[ak]
    refine⟨_,rfl,?_⟩
    refine⟨0,?_,?_,?_,?_⟩
    all_goals first|rfl|(simp only[eF,seval,-Int.reduceToNat]<;>rfl)
theorem Q2:bH Tryz.prog 103 Bi:=bH.of (mode := .clean) tok Qx mixed Tryz.func103 (by kernel_rfl) ⟨by kernel_rfl,by kernel_rfl⟩ (fun _=>Nat.le_of_ble_eq_true (by kernel_rfl)) (fun x r h=>Tl x r h)
noncomputable def ko:=eL (dJ (cJ fG)) (fun x:an=>dm x) (fun r:Bool =>.clean (.bool r))
theorem ie (p0_0:Int) (p0_1:(List Int)):ko none [.agg [.int .i64 p0_0,.sl false false p0_1.length (ab (eI .i64) p0_1)]]=(dm (an.mk p0_0 p0_1)).map fun r:Bool=>(.clean (.bool r),none):=aK _ _ _ ((an.mk p0_0 p0_1))
theorem KC (p0:an) (r:Bool) (hh:dm p0=some r):aQ .clean tab aS FU Tryz.f111 none [.agg [.int .i64 p0.ag,.sl false false p0.aa.length (ab (eI .i64) p0.aa)]]=some (.clean (.bool r),none):=by
 refine av rfl Tryz.ntmps111 Tryz.results111 ?_
 unfold dm at hh
 try simp only[w,seval,-Int.reduceToNat]
 obtain⟨o5,ho5,hh⟩:=ae hh
 refine aA (fun s t H e=>match s with|s3a=>∃v1a:Nat,t 1=.ptr 1 v1a 0∧t 3=.int .i64 s3a∧H 1=some ⟨v1a,49,[.int .i64 p0.ag,.sl false false p0.aa.length (ab (eI .i64) p0.aa)],false,false,false⟩) (fun o x t H e=>match o with|(.inl _)=>x=.exit 0∧∃v1ax:Nat,t 1=.ptr 1 v1ax 0∧H 1=some ⟨v1ax,49,[.int .i64 p0.ag,.sl false false p0.aa.length (ab (eI .i64) p0.aa)],false,false,false⟩|(.inr r)=>x=.ret∧gW .clean tab none [.tmp 2] ⟨t,H,e⟩=some (.clean (.bool r),none)) ho5 ?_ ?_ ?_
 ·refine⟨0,?_,?_,?_⟩
  all_goals first|rfl|(simp only[w,seval,-Int.reduceToNat]<;>rfl)
 ·rintro s3a t H e ⟨v1a,Za⟩ c hh
  simp only[nX]at hh
  try simp only[w,seval,-Int.reduceToNat,Za]
  refine sp aj hh (fun _ hh =>?_) (fun _ hh =>?_)
  ·obtain⟨x7,hx7,hh⟩:=ae hh
   have ax7:=bG (eI .i64) hx7
   simp only[bU]at ax7
   try simp only[w,seval,-Int.reduceToNat,Za,ax7]
   refine sp aU hh (fun _ hh =>?_) (fun _ hh =>?_)
   ·cases hh
    try simp only[w,seval,-Int.reduceToNat,Za,ax7]
    refine yZ ⟨rfl,?_⟩
    try simp only[w,seval,-Int.reduceToNat,Za,ax7]
   ·have ax7:=bG (eI .i64) hx7
    simp only[bU]at ax7
    try simp only[w,seval,-Int.reduceToNat,Za,ax7,ax7]
    refine sp aj hh (fun _ hh =>?_) (fun _ hh =>?_)
    ·cases hh
     try simp only[w,seval,-Int.reduceToNat,Za,ax7,ax7]
     refine yZ ⟨rfl,?_⟩
     try simp only[w,seval,-Int.reduceToNat,Za,ax7,ax7]
    ·cases hh
     try simp only[w,seval,-Int.reduceToNat,Za,ax7,ax7]
     refine jB ?_
     refine⟨v1a,?_,?_,?_⟩
     all_goals first|rfl|(simp only[w,seval,-Int.reduceToNat,Za,ax7,ax7]<;>rfl)
  ·cases hh
   try simp only[w,seval,-Int.reduceToNat,Za]
   refine kH ?_
   refine⟨rfl,⟨v1a,?_,?_⟩⟩
   all_goals first|rfl|(simp only[w,seval,-Int.reduceToNat,Za]<;>rfl)
 ·rintro x t H e hx
  rcases o5 with _|ra
  ·dsimp only at hx hh
   obtain⟨rfl,⟨v1ax,Zax⟩⟩:=hx
   try simp only[w,seval,-Int.reduceToNat,Zax]
   obtain⟨o10,ho10,hh⟩:=ae hh
   refine bD 0 (fun s t H e=>match s with|s44j2=>∃v1j2:Nat,t 1=.ptr 1 v1j2 0∧t 4=.int .i64 (p0.aa.length:Int)∧t 44=.bool s44j2∧H 1=some ⟨v1j2,49,[.int .i64 p0.ag,.sl false false p0.aa.length (ab (eI .i64) p0.aa)],false,false,false⟩) (fun s=>s=o10) ?_ ?_
   ·rintro s44j2 t H e ⟨v1j2,Zj2⟩ rfl
    try dsimp only at hh
    try simp only[w,seval,-Int.reduceToNat,Zj2]
    refine sp aj hh (fun _ hh =>?_) (fun _ hh =>?_)
    ·cases hh
     try simp only[w,seval,-Int.reduceToNat,Zj2]
    ·try simp only[w,seval,-Int.reduceToNat,Zj2]
     refine sp aU hh (fun _ hh =>?_) (fun _ hh =>?_)
     ·cases hh
      try simp only[w,seval,-Int.reduceToNat,Zj2]
     ·obtain⟨x13,hx13,hh⟩:=ae hh
      have ax13:=bG (eI .i64) hx13
      simp only[bU]at ax13
      cases hh
      try simp only[w,seval,-Int.reduceToNat,Zj2,ax13]
   ·clear hh
    have hh:=ho10
    try simp only[w,seval,-Int.reduceToNat,Zax]
    refine sp aU hh (fun _ hh =>?_) (fun _ hh =>?_)
    ·cases hh
     try simp only[w,seval,-Int.reduceToNat,Zax]
     rw[ak]
     refine⟨_,rfl,?_⟩
     refine⟨v1ax,?_,?_,?_,?_⟩
     all_goals first|rfl|(simp only[w,seval,-Int.reduceToNat,Zax]<;>rfl)
    ·try simp only[w,seval,-Int.reduceToNat,Zax]
     refine sp aU hh (fun _ hh =>?_) (fun _ hh =>?_)
     ·cases hh
      try simp only[w,seval,-Int.reduceToNat,Zax]
      rw[ak]
      refine⟨_,rfl,?_⟩
      refine⟨v1ax,?_,?_,?_,?_⟩
      all_goals first|rfl|(simp only[w,seval,-Int.reduceToNat,Zax]<;>rfl)
     ·cases hh
      try simp only[w,seval,-Int.reduceToNat,Zax]
      rw[ak]
      refine⟨_,rfl,?_⟩
      refine⟨v1ax,?_,?_,?_,?_⟩
      all_goals first|rfl|(simp only[w,seval,-Int.reduceToNat,Zax]<;>rfl)
  ·dsimp only at hx hh
   obtain⟨rfl,hE⟩:=hx
   cases hh
   try simp only[bq,bj,bF,dr,dq]
   exact hE
theorem nP:bH Tryz.prog 111 ko:=bH.of (mode := .clean) tok bN.none mixed Tryz.func111 (by kernel_rfl) ⟨by kernel_rfl,by kernel_rfl⟩ (fun _=>Nat.le_of_ble_eq_true (by kernel_rfl)) (fun x r h=>KC x r h)
noncomputable def yA:=eL (dJ (cJ fG)) (fun x:an=>pM x) (fun r:an =>.clean (.agg [.int .i64 r.ag,.sl false false r.aa.length (ab (eI .i64) r.aa)]))
theorem Gs (p0_0:Int) (p0_1:(List Int)):yA none [.agg [.int .i64 p0_0,.sl false false p0_1.length (ab (eI .i64) p0_1)]]=(pM (an.mk p0_0 p0_1)).map fun r:an=>(.clean (.agg [.int .i64 r.ag,.sl false false r.aa.length (ab (eI .i64) r.aa)]),none):=aK _ _ _ ((an.mk p0_0 p0_1))
noncomputable def u6:Env:=(Am.ext (Am.ext aS 111 false ko) 133 false lH)
theorem MJ:bN Tryz.prog u6:=((bN.none.add nP false).add pG false)
theorem zp:type_of% (ai @w<|ai @ie<|ai @jj<|@u6.eq_1):=⟨@w,@ie,@jj,@u6.eq_1⟩
theorem QP (p0:an) (r:an) (hh:pM p0=some r):aQ .clean tab u6 FU Tryz.f131 none [.agg [.int .i64 p0.ag,.sl false false p0.aa.length (ab (eI .i64) p0.aa)]]=some (.clean (.agg [.int .i64 r.ag,.sl false false r.aa.length (ab (eI .i64) r.aa)]),none):=by
 refine av rfl Tryz.ntmps131 Tryz.results131 ?_
 unfold pM at hh
 obtain⟨r1,hr1,hh⟩:=ae hh
 try simp only[zp,seval,-Int.reduceToNat,hr1]
 refine sp aj hh (fun _ hh =>?_) (fun _ hh =>?_)
 ·cases hh
  try simp only[zp,seval,-Int.reduceToNat,hr1]
 ·obtain⟨r3,hr3,hh⟩:=ae hh
  cases hh
  try simp only[zp,seval,-Int.reduceToNat,hr1,hr3]
theorem No:bH Tryz.prog 131 yA:=bH.of (mode := .clean) tok MJ mixed Tryz.func131 (by kernel_rfl) ⟨by kernel_rfl,by kernel_rfl⟩ (fun _=>Nat.le_of_ble_eq_true (by kernel_rfl)) (fun x r h=>QP x r h)
noncomputable def kp:=eL (ec (iE (eI .i64)) (dJ (aI .i64))) (fun x:(List Int)×Int=>gh x.1 x.2) (fun r:Int =>.clean (.int .i64 r))
theorem ig (p0:(List Int)) (p1:Int):kp none [.sl false false p0.length (ab (eI .i64) p0),.int .i64 p1]=(gh p0 p1).map fun r:Int=>(.clean (.int .i64 r),none):=aK _ _ _ (p0,p1)
theorem KD (p0:(List Int)) (p1:Int) (r:Int) (hh:gh p0 p1=some r):aQ .clean tab aS FU Tryz.f175 none [.sl false false p0.length (ab (eI .i64) p0),.int .i64 p1]=some (.clean (.int .i64 r),none):=by
 refine av rfl Tryz.ntmps175 Tryz.results175 ?_
 unfold gh at hh
 try simp only[w,seval,-Int.reduceToNat]
 refine sp aj hh (fun _ hh =>?_) (fun _ hh =>?_)
 ·obtain⟨x2,hx2,hh⟩:=ae hh
  have ax2:=bG (eI .i64) hx2
  simp only[bU]at ax2
  cases hh
  try simp only[w,seval,-Int.reduceToNat,ax2]
 ·cases hh
  try simp only[w,seval,-Int.reduceToNat]
theorem nQ:bH Tryz.prog 175 kp:=bH.of (mode := .clean) tok bN.none mixed Tryz.func175 (by kernel_rfl) ⟨by kernel_rfl,by kernel_rfl⟩ (fun _=>Nat.le_of_ble_eq_true (by kernel_rfl)) (fun x r h=>KD x.1 x.2 r h)
noncomputable def sZ:=eL (ec (iE (eI .i64)) (dJ (iE (eI .i64)))) (fun x:(List Int)×(List Int)=>jz x.1 x.2) (fun r:(List Int) =>.clean (.sl false false r.length (ab (eI .i64) r)))
theorem uh (p0:(List Int)) (p1:(List Int)):sZ none [.sl false false p0.length (ab (eI .i64) p0),.sl false false p1.length (ab (eI .i64) p1)]=(jz p0 p1).map fun r:(List Int)=>(.clean (.sl false false r.length (ab (eI .i64) r)),none):=aK _ _ _ (p0,p1)
noncomputable def py:Env:=(Am.ext (Am.ext aS 169 false ka) 175 false kp)
theorem Hn:bN Tryz.prog py:=((bN.none.add mE false).add nQ false)
theorem b8:type_of% (ai @w<|ai @fV<|ai @ig<|@py.eq_1):=⟨@w,@fV,@ig,@py.eq_1⟩
theorem KF (p0:(List Int)) (p1:(List Int)) (r:(List Int)) (hh:jz p0 p1=some r):aQ .clean tab py FU Tryz.f154 none [.sl false false p0.length (ab (eI .i64) p0),.sl false false p1.length (ab (eI .i64) p1)]=some (.clean (.sl false false r.length (ab (eI .i64) r)),none):=by
 refine av rfl Tryz.ntmps154 Tryz.results154 ?_
 unfold jz at hh
 obtain⟨x1,hx1,hh⟩:=ae hh
 obtain⟨q2a,q2b,q2c,q2d,q2e⟩:=mk_one (eI .i64) hx1
 simp only[bU]at q2d
 try simp only[b8,seval,-Int.reduceToNat,q2a,q2b,q2c,q2d,q2e]
 obtain⟨o27,ho27,hh⟩:=ae hh
 refine aA (fun s t H e=>match s with|(s6a,l5a)=>∃v5a:Nat,t 0=.sl false false p0.length (ab (eI .i64) p0)∧t 1=.sl false false p1.length (ab (eI .i64) p1)∧t 5=.buf 5 v5a 1 0 (l5a).length∧t 6=.int .i64 s6a∧H 5=some ⟨v5a,3,ab (eI .i64) l5a,false,true,false⟩) (fun o x t H e=>match o with|l5ax=>x=.exit 0∧∃v5ax:Nat,t 5=.buf 5 v5ax 1 0 (l5ax).length∧H 5=some ⟨v5ax,3,ab (eI .i64) l5ax,false,true,false⟩) ho27 ?_ ?_ ?_
 ·refine⟨1,?_,?_,?_,?_,?_⟩
  all_goals first|rfl|(simp only[b8,seval,-Int.reduceToNat,q2a,q2b,q2c,q2d,q2e]<;>rfl)
 ·rintro⟨s6a,l5a⟩ t H e ⟨v5a,Za⟩ c hh
  simp only[nZ]at hh
  try simp only[b8,seval,-Int.reduceToNat,q2a,q2b,q2c,q2d,q2e,Za]
  refine sp aj hh (fun _ hh =>?_) (fun _ hh =>?_)
  ·try simp only[b8,seval,-Int.reduceToNat,q2a,q2b,q2c,q2d,q2e,Za]
   obtain⟨o40,ho40,hh⟩:=ae hh
   refine aA (fun s t H e=>match s with|(s7e,s8e,l5e)=>∃v5e:Nat,t 0=.sl false false p0.length (ab (eI .i64) p0)∧t 1=.sl false false p1.length (ab (eI .i64) p1)∧t 5=.buf 5 v5e 1 0 (l5e).length∧t 6=.int .i64 s6a∧t 7=.int .i64 s7e∧t 8=.int .i64 s8e∧H 5=some ⟨v5e,3,ab (eI .i64) l5e,false,true,false⟩) (fun o x t H e=>match o with|l5ex=>x=.exit 2∧∃v5ex:Nat,t 0=.sl false false p0.length (ab (eI .i64) p0)∧t 1=.sl false false p1.length (ab (eI .i64) p1)∧t 5=.buf 5 v5ex 1 0 (l5ex).length∧t 6=.int .i64 s6a∧H 5=some ⟨v5ex,3,ab (eI .i64) l5ex,false,true,false⟩) ho40 ?_ ?_ ?_
   ·refine⟨v5a,?_,?_,?_,?_,?_,?_,?_⟩
    all_goals first|rfl|(simp only[b8,seval,-Int.reduceToNat,q2a,q2b,q2c,q2d,q2e,Za]<;>rfl)
   ·rintro⟨s7e,s8e,l5e⟩ t H e ⟨v5e,Ze⟩ c hh
    simp only[n0]at hh
    try simp only[b8,seval,-Int.reduceToNat,q2a,q2b,q2c,q2d,q2e,Ze]
    obtain⟨o41,ho41,hh⟩:=ae hh
    refine bD 0 (fun s t H e=>match s with|s29j7=>∃v5j7:Nat,t 0=.sl false false p0.length (ab (eI .i64) p0)∧t 1=.sl false false p1.length (ab (eI .i64) p1)∧t 5=.buf 5 v5j7 1 0 (l5e).length∧t 6=.int .i64 s6a∧t 7=.int .i64 s7e∧t 8=.int .i64 s8e∧t 29=.bool s29j7∧H 5=some ⟨v5j7,3,ab (eI .i64) l5e,false,true,false⟩) (fun s=>s=o41) ?_ ?_
    ·rintro s29j7 t H e ⟨v5j7,Zj7⟩ rfl
     try dsimp only at hh
     try simp only[b8,seval,-Int.reduceToNat,q2a,q2b,q2c,q2d,q2e,Zj7]
     refine sp aj hh (fun _ hh =>?_) (fun _ hh =>?_)
     ·obtain⟨x43,hx43,hh⟩:=ae hh
      have ax43:=bG (eI .i64) hx43
      simp only[bU]at ax43
      obtain⟨x44,hx44,hh⟩:=ae hh
      have ax44:=bG (eI .i64) hx44
      simp only[bU]at ax44
      obtain⟨r45,hr45,hh⟩:=ae hh
      try simp only[b8,seval,-Int.reduceToNat,q2a,q2b,q2c,q2d,q2e,Zj7,ax43,ax44,hr45]
      refine bI (by kernel_rfl) ?_
      obtain⟨x46,hx46,hh⟩:=ae hh
      have q47:=rL hx46
      have ax43:=bG (eI .i64) hx43
      simp only[bU]at ax43
      have p48:=iz (eI .i64) (x':=x46) (fo:=0) (cs:=[.int .i64 x46]) hx43 rfl (Nat.le_of_ble_eq_true rfl)
      simp only[bU,Nat.add_zero]at p48
      have up48:=p48
      simp only[putCells,List.length_cons,List.length_nil,Nat.zero_add,Nat.reduceAdd]at up48
      obtain⟨x49,hx49,hh⟩:=ae hh
      have q50:=rj hx49
      cases hh
      try simp only[b8,seval,-Int.reduceToNat,q2a,q2b,q2c,q2d,q2e,Zj7,ax43,ax44,hr45,q47,ax43,p48,up48,q50]
      refine jB ?_
      refine⟨v5j7,?_,?_,?_,?_,?_,?_,?_⟩
      all_goals first|rfl|(simp only[b8,seval,-Int.reduceToNat,q2a,q2b,q2c,q2d,q2e,Zj7,ax43,ax44,hr45,q47,ax43,p48,up48,q50]<;>rfl)
     ·cases hh
      try simp only[b8,seval,-Int.reduceToNat,q2a,q2b,q2c,q2d,q2e,Zj7]
      refine kH ?_
      refine⟨rfl,⟨v5j7,?_,?_,?_,?_,?_⟩⟩
      all_goals first|rfl|(simp only[b8,seval,-Int.reduceToNat,q2a,q2b,q2c,q2d,q2e,Zj7]<;>rfl)
    ·clear hh
     have hh:=ho41
     try simp only[b8,seval,-Int.reduceToNat,q2a,q2b,q2c,q2d,q2e,Ze]
     refine sp aU hh (fun _ hh =>?_) (fun _ hh =>?_)
     ·cases hh
      try simp only[b8,seval,-Int.reduceToNat,q2a,q2b,q2c,q2d,q2e,Ze]
      rw[ak]
      refine⟨_,rfl,?_⟩
      refine⟨v5e,?_,?_,?_,?_,?_,?_,?_,?_⟩
      all_goals first|rfl|(simp only[b8,seval,-Int.reduceToNat,q2a,q2b,q2c,q2d,q2e,Ze]<;>rfl)
     ·cases hh
      try simp only[b8,seval,-Int.reduceToNat,q2a,q2b,q2c,q2d,q2e,Ze]
      rw[ak]
      refine⟨_,rfl,?_⟩
      refine⟨v5e,?_,?_,?_,?_,?_,?_,?_,?_⟩
      all_goals first|rfl|(simp only[b8,seval,-Int.reduceToNat,q2a,q2b,q2c,q2d,q2e,Ze]<;>rfl)
   ·rintro x t H e hx
    obtain⟨l5ex,rfl⟩:∃z,z=o40:=⟨_,rfl⟩
    dsimp only at hx hh
    obtain⟨rfl,⟨v5ex,Zex⟩⟩:=hx
    cases hh
    try simp only[b8,seval,-Int.reduceToNat,q2a,q2b,q2c,q2d,q2e,Zex]
    refine jB ?_
    refine⟨v5ex,?_,?_,?_,?_,?_⟩
    all_goals first|rfl|(simp only[b8,seval,-Int.reduceToNat,q2a,q2b,q2c,q2d,q2e,Zex]<;>rfl)
  ·cases hh
   try simp only[b8,seval,-Int.reduceToNat,q2a,q2b,q2c,q2d,q2e,Za]
   refine kH ?_
   refine⟨rfl,⟨v5a,?_,?_⟩⟩
   all_goals first|rfl|(simp only[b8,seval,-Int.reduceToNat,q2a,q2b,q2c,q2d,q2e,Za]<;>rfl)
 ·rintro x t H e hx
  obtain⟨l5ax,rfl⟩:∃z,z=o27:=⟨_,rfl⟩
  dsimp only at hx hh
  obtain⟨rfl,⟨v5ax,Zax⟩⟩:=hx
  obtain⟨r52,hr52,hh⟩:=ae hh
  cases hh
  try simp only[b8,seval,-Int.reduceToNat,q2a,q2b,q2c,q2d,q2e,Zax,hr52]
theorem HV:bH Tryz.prog 154 sZ:=bH.of (mode := .clean) tok Hn mixed Tryz.func154 (by kernel_rfl) ⟨by kernel_rfl,by kernel_rfl⟩ (fun _=>Nat.le_of_ble_eq_true (by kernel_rfl)) (fun x r h=>KF x.1 x.2 r h)
noncomputable def wG:=eL (ec (iE (eI .i64)) (dJ (iE (eI .i64)))) (fun x:(List Int)×(List Int)=>mI x.1 x.2) (fun r:Bool =>.clean (.bool r))
theorem Di (p0:(List Int)) (p1:(List Int)):wG none [.sl false false p0.length (ab (eI .i64) p0),.sl false false p1.length (ab (eI .i64) p1)]=(mI p0 p1).map fun r:Bool=>(.clean (.bool r),none):=aK _ _ _ (p0,p1)
noncomputable def rB:Env:=(Am.ext aS 175 false kp)
theorem JR:bN Tryz.prog rB:=(bN.none.add nQ false)
theorem gK:type_of% (ai @w<|ai @ig<|@rB.eq_1):=⟨@w,@ig,@rB.eq_1⟩
theorem M5 (p0:(List Int)) (p1:(List Int)) (r:Bool) (hh:mI p0 p1=some r):aQ .clean tab rB FU Tryz.f153 none [.sl false false p0.length (ab (eI .i64) p0),.sl false false p1.length (ab (eI .i64) p1)]=some (.clean (.bool r),none):=by
 refine av rfl Tryz.ntmps153 Tryz.results153 ?_
 unfold mI at hh
 try simp only[gK,seval,-Int.reduceToNat]
 obtain⟨o5,ho5,hh⟩:=ae hh
 refine aA (fun s t H e=>match s with|s5a=>t 0=.sl false false p0.length (ab (eI .i64) p0)∧t 1=.sl false false p1.length (ab (eI .i64) p1)∧t 5=.int .i64 s5a) (fun o x t H e=>match o with|(.inl _)=>x=.exit 0|(.inr r)=>x=.ret∧gW .clean tab none [.tmp 4] ⟨t,H,e⟩=some (.clean (.bool r),none)) ho5 ?_ ?_ ?_
 ·refine⟨?_,?_,?_⟩
  all_goals first|rfl|(simp only[gK,seval,-Int.reduceToNat]<;>rfl)
 ·rintro s5a t H e Za c hh
  simp only[pN]at hh
  try simp only[gK,seval,-Int.reduceToNat,Za]
  refine sp aj hh (fun _ hh =>?_) (fun _ hh =>?_)
  ·obtain⟨r7,hr7,hh⟩:=ae hh
   obtain⟨r8,hr8,hh⟩:=ae hh
   try simp only[gK,seval,-Int.reduceToNat,Za,hr7,hr8]
   refine sp aj hh (fun _ hh =>?_) (fun _ hh =>?_)
   ·cases hh
    try simp only[gK,seval,-Int.reduceToNat,Za,hr7,hr8]
    refine yZ ⟨rfl,?_⟩
    try simp only[gK,seval,-Int.reduceToNat,Za,hr7,hr8]
   ·cases hh
    try simp only[gK,seval,-Int.reduceToNat,Za,hr7,hr8]
    refine jB ?_
    refine⟨?_,?_,?_⟩
    all_goals first|rfl|(simp only[gK,seval,-Int.reduceToNat,Za,hr7,hr8]<;>rfl)
  ·cases hh
   try simp only[gK,seval,-Int.reduceToNat,Za]
   refine kH ?_
   exact rfl
 ·rintro x t H e hx
  rcases o5 with _|ra
  ·dsimp only at hx hh
   subst hx
   cases hh
   try simp only[gK,seval,-Int.reduceToNat]
  ·dsimp only at hx hh
   obtain⟨rfl,hE⟩:=hx
   cases hh
   try simp only[bq,bj,bF,dr,dq]
   exact hE
theorem K8:bH Tryz.prog 153 wG:=bH.of (mode := .clean) tok JR mixed Tryz.func153 (by kernel_rfl) ⟨by kernel_rfl,by kernel_rfl⟩ (fun _=>Nat.le_of_ble_eq_true (by kernel_rfl)) (fun x r h=>M5 x.1 x.2 r h)
noncomputable def pc:=eL (ec (iE (eI .i64)) (dJ (iE (eI .i64)))) (fun x:(List Int)×(List Int)=>ky x.1 x.2) (fun r:(List Int) =>.clean (.sl false false r.length (ab (eI .i64) r)))
theorem pL (p0:(List Int)) (p1:(List Int)):pc none [.sl false false p0.length (ab (eI .i64) p0),.sl false false p1.length (ab (eI .i64) p1)]=(ky p0 p1).map fun r:(List Int)=>(.clean (.sl false false r.length (ab (eI .i64) r)),none):=aK _ _ _ (p0,p1)
noncomputable def pt:Env:=(Am.ext (Am.ext aS 169 false ka) 175 false kp)
theorem Hm:bN Tryz.prog pt:=((bN.none.add mE false).add nQ false)
theorem eM:type_of% (ai @w<|ai @fV<|ai @ig<|@pt.eq_1):=⟨@w,@fV,@ig,@pt.eq_1⟩
theorem KE (p0:(List Int)) (p1:(List Int)) (r:(List Int)) (hh:ky p0 p1=some r):aQ .clean tab pt FU Tryz.f168 none [.sl false false p0.length (ab (eI .i64) p0),.sl false false p1.length (ab (eI .i64) p1)]=some (.clean (.sl false false r.length (ab (eI .i64) r)),none):=by
 refine av rfl Tryz.ntmps168 Tryz.results168 ?_
 unfold ky at hh
 try simp only[eM,seval,-Int.reduceToNat]
 obtain⟨o9,ho9,hh⟩:=ae hh
 refine aA (fun s t H e=>match s with|(s6a,s7a,l5a)=>∃v5a:Nat,t 0=.sl false false p0.length (ab (eI .i64) p0)∧t 1=.sl false false p1.length (ab (eI .i64) p1)∧t 5=.buf 5 v5a 1 0 (l5a).length∧t 6=.int .i64 s6a∧t 7=.int .i64 s7a∧H 5=some ⟨v5a,3,ab (eI .i64) l5a,false,true,false⟩) (fun o x t H e=>match o with|l5ax=>x=.exit 0∧∃v5ax:Nat,t 5=.buf 5 v5ax 1 0 (l5ax).length∧H 5=some ⟨v5ax,3,ab (eI .i64) l5ax,false,true,false⟩) ho9 ?_ ?_ ?_
 ·refine⟨1,?_,?_,?_,?_,?_,?_⟩
  all_goals first|rfl|(simp only[eM,seval,-Int.reduceToNat]<;>rfl)
 ·rintro⟨s6a,s7a,l5a⟩ t H e ⟨v5a,Za⟩ c hh
  simp only[nY]at hh
  try simp only[eM,seval,-Int.reduceToNat,Za]
  refine sp aj hh (fun _ hh =>?_) (fun _ hh =>?_)
  ·obtain⟨x11,hx11,hh⟩:=ae hh
   have ax11:=bG (eI .i64) hx11
   simp only[bU]at ax11
   obtain⟨r12,hr12,hh⟩:=ae hh
   try simp only[eM,seval,-Int.reduceToNat,Za,ax11,hr12]
   refine bI (by kernel_rfl) ?_
   try simp only[eM,seval,-Int.reduceToNat,Za,ax11,hr12]
   refine sp aj hh (fun _ hh =>?_) (fun _ hh =>?_)
   ·obtain⟨x14,hx14,hh⟩:=ae hh
    obtain⟨q15a,q15b,q15c,q15d⟩:=fi (eI .i64) hx14
    simp only[bU]at q15b
    cases hh
    try simp only[eM,seval,-Int.reduceToNat,Za,ax11,hr12,q15a,q15b,q15c,q15d]
    refine jB ?_
    refine⟨e+1+1+1+1+1+1,?_,?_,?_,?_,?_,?_⟩
    all_goals first|rfl|(simp only[eM,seval,-Int.reduceToNat,Za,ax11,hr12,q15a,q15b,q15c,q15d]<;>rfl)
   ·obtain⟨x16,hx16,hh⟩:=ae hh
    obtain⟨q17a,q17b,q17c,q17d⟩:=fi (eI .i64) hx16
    simp only[bU]at q17b
    cases hh
    try simp only[eM,seval,-Int.reduceToNat,Za,ax11,hr12,q17a,q17b,q17c,q17d]
    refine jB ?_
    refine⟨e+1+1+1+1,?_,?_,?_,?_,?_,?_⟩
    all_goals first|rfl|(simp only[eM,seval,-Int.reduceToNat,Za,ax11,hr12,q17a,q17b,q17c,q17d]<;>rfl)
  ·cases hh
   try simp only[eM,seval,-Int.reduceToNat,Za]
   refine kH ?_
   refine⟨rfl,⟨v5a,?_,?_⟩⟩
   all_goals first|rfl|(simp only[eM,seval,-Int.reduceToNat,Za]<;>rfl)
 ·rintro x t H e hx
  obtain⟨l5ax,rfl⟩:∃z,z=o9:=⟨_,rfl⟩
  dsimp only at hx hh
  obtain⟨rfl,⟨v5ax,Zax⟩⟩:=hx
  obtain⟨r18,hr18,hh⟩:=ae hh
  cases hh
  try simp only[eM,seval,-Int.reduceToNat,Zax,hr18]
theorem xT:bH Tryz.prog 168 pc:=bH.of (mode := .clean) tok Hm mixed Tryz.func168 (by kernel_rfl) ⟨by kernel_rfl,by kernel_rfl⟩ (fun _=>Nat.le_of_ble_eq_true (by kernel_rfl)) (fun x r h=>KE x.1 x.2 r h)
noncomputable def qK:=eL (ec (iE (eI .i64)) (dJ (iE (eI .i64)))) (fun x:(List Int)×(List Int)=>mJ x.1 x.2) (fun r:(List Int)×(List Int) =>.clean (.tup [.sl false false r.1.length (ab (eI .i64) r.1),.sl false false r.2.length (ab (eI .i64) r.2)]))
theorem rP (p0:(List Int)) (p1:(List Int)):qK none [.sl false false p0.length (ab (eI .i64) p0),.sl false false p1.length (ab (eI .i64) p1)]=(mJ p0 p1).map fun r:(List Int)×(List Int)=>(.clean (.tup [.sl false false r.1.length (ab (eI .i64) r.1),.sl false false r.2.length (ab (eI .i64) r.2)]),none):=aK _ _ _ (p0,p1)
noncomputable def rD:Env:=(Am.keep 7 (Am.ext (Am.ext (Am.ext (Am.ext aS 153 false wG) 154 false sZ) 168 false pc) 169 false ka))
theorem JT:bN Tryz.prog rD:=(bN.keep ((((bN.none.add K8 false).add HV false).add xT false).add mE false) 7)
theorem dc:type_of% (ai @w<|ai @Di<|ai @uh<|ai @pL<|ai @fV<|@rD.eq_1):=⟨@w,@Di,@uh,@pL,@fV,@rD.eq_1⟩
theorem M7 (p0:(List Int)) (p1:(List Int)) (r:(List Int)×(List Int)) (hh:mJ p0 p1=some r):aQ .clean tab rD FU Tryz.f151 none [.sl false false p0.length (ab (eI .i64) p0),.sl false false p1.length (ab (eI .i64) p1)]=some (.clean (.tup [.sl false false r.1.length (ab (eI .i64) r.1),.sl false false r.2.length (ab (eI .i64) r.2)]),none):=by
 refine av rfl Tryz.ntmps151 Tryz.results151 ?_
 unfold mJ at hh
 obtain⟨x1,hx1,hh⟩:=ae hh
 obtain⟨q2a,q2b,q2c,q2d,q2e⟩:=mk_one (eI .i64) hx1
 simp only[bU]at q2d
 try simp only[dc,seval,-Int.reduceToNat,q2a,q2b,q2c,q2d,q2e]
 obtain⟨o29,ho29,hh⟩:=ae hh
 refine aA (fun s t H e=>match s with|(s7a,s8a,l6a)=>∃v6a:Nat,t 0=.sl false false p0.length (ab (eI .i64) p0)∧t 1=.sl false false p1.length (ab (eI .i64) p1)∧t 6=.buf 6 v6a 1 0 (l6a).length∧t 7=.sl false false s7a.length (ab (eI .i64) s7a)∧t 8=.int .i64 s8a∧H 6=some ⟨v6a,3,ab (eI .i64) l6a,false,true,false⟩) (fun o x t H e=>match o with|(s7ax,l6ax)=>x=.exit 0∧∃v6ax:Nat,t 6=.buf 6 v6ax 1 0 (l6ax).length∧t 7=.sl false false s7ax.length (ab (eI .i64) s7ax)∧H 6=some ⟨v6ax,3,ab (eI .i64) l6ax,false,true,false⟩) ho29 ?_ ?_ ?_
 ·refine⟨1,?_,?_,?_,?_,?_,?_⟩
  all_goals first|rfl|(simp only[dc,seval,-Int.reduceToNat,q2a,q2b,q2c,q2d,q2e]<;>rfl)
 ·rintro⟨s7a,s8a,l6a⟩ t H e ⟨v6a,Za⟩ c hh
  simp only[pO]at hh
  try simp only[dc,seval,-Int.reduceToNat,q2a,q2b,q2c,q2d,q2e,Za]
  refine sp aj hh (fun _ hh =>?_) (fun _ hh =>?_)
  ·obtain⟨x31,hx31,hh⟩:=ae hh
   have ax31:=bG (eI .i64) hx31
   simp only[bU]at ax31
   obtain⟨x32,hx32,hh⟩:=ae hh
   obtain⟨q33a,q33b,q33c,q33d⟩:=U1 (eI .i64) hx32
   simp only[aP,bU,List.length_cons,Nat.zero_add,Nat.reduceAdd]at q33a q33b
   obtain⟨r34,hr34,hh⟩:=ae hh
   try simp only[dc,seval,-Int.reduceToNat,q2a,q2b,q2c,q2d,q2e,Za,ax31,q33a,q33b,q33c,q33d,hr34]
   obtain⟨o42,ho42,hh⟩:=ae hh
   refine aA (fun s t H e=>match s with|(s9c,s10c)=>∃v6c:Nat,t 0=.sl false false p0.length (ab (eI .i64) p0)∧t 1=.sl false false p1.length (ab (eI .i64) p1)∧t 6=.buf 6 v6c 1 0 (l6a).length∧t 7=.sl false false r34.length (ab (eI .i64) r34)∧t 8=.int .i64 s8a∧t 9=.int .i64 s9c∧t 10=.int .i64 s10c∧H 6=some ⟨v6c,3,ab (eI .i64) l6a,false,true,false⟩) (fun o x t H e=>match o with|s9cx=>x=.exit 2∧∃v6cx:Nat,t 0=.sl false false p0.length (ab (eI .i64) p0)∧t 1=.sl false false p1.length (ab (eI .i64) p1)∧t 6=.buf 6 v6cx 1 0 (l6a).length∧t 7=.sl false false r34.length (ab (eI .i64) r34)∧t 8=.int .i64 s8a∧t 9=.int .i64 s9cx∧H 6=some ⟨v6cx,3,ab (eI .i64) l6a,false,true,false⟩) ho42 ?_ ?_ ?_
   ·refine⟨v6a,?_,?_,?_,?_,?_,?_,?_,?_⟩
    all_goals first|rfl|(simp only[dc,seval,-Int.reduceToNat,q2a,q2b,q2c,q2d,q2e,Za,ax31,q33a,q33b,q33c,q33d,hr34]<;>rfl)
   ·rintro⟨s9c,s10c⟩ t H e ⟨v6c,Zc⟩ c hh
    simp only[mK]at hh
    try simp only[dc,seval,-Int.reduceToNat,q2a,q2b,q2c,q2d,q2e,ax31,q33a,q33b,q33c,q33d,hr34,Zc]
    refine sp aj hh (fun _ hh =>?_) (fun _ hh =>?_)
    ·obtain⟨x44,hx44,hh⟩:=ae hh
     have q45:=rj hx44
     have i46:=uh p1 ([x44])
     simp only[aP,bU,List.length_cons,List.length_nil,Nat.zero_add,Nat.reduceAdd,List.length_set]at i46
     obtain⟨r47,hr47,hh⟩:=ae hh
     obtain⟨r48,hr48,hh⟩:=ae hh
     try simp only[dc,seval,-Int.reduceToNat,q2a,q2b,q2c,q2d,q2e,ax31,q33a,q33b,q33c,q33d,hr34,Zc,q45,i46,hr47,hr48]
     refine sp aj hh (fun _ hh =>?_) (fun _ hh =>?_)
     ·cases hh
      try simp only[dc,seval,-Int.reduceToNat,q2a,q2b,q2c,q2d,q2e,ax31,q33a,q33b,q33c,q33d,hr34,Zc,q45,i46,hr47,hr48]
      refine jB ?_
      refine⟨v6c,?_,?_,?_,?_,?_,?_,?_,?_⟩
      all_goals first|rfl|(simp only[dc,seval,-Int.reduceToNat,q2a,q2b,q2c,q2d,q2e,ax31,q33a,q33b,q33c,q33d,hr34,Zc,q45,i46,hr47,hr48]<;>rfl)
     ·cases hh
      try simp only[dc,seval,-Int.reduceToNat,q2a,q2b,q2c,q2d,q2e,ax31,q33a,q33b,q33c,q33d,hr34,Zc,q45,i46,hr47,hr48]
      refine jB ?_
      refine⟨v6c,?_,?_,?_,?_,?_,?_,?_,?_⟩
      all_goals first|rfl|(simp only[dc,seval,-Int.reduceToNat,q2a,q2b,q2c,q2d,q2e,ax31,q33a,q33b,q33c,q33d,hr34,Zc,q45,i46,hr47,hr48]<;>rfl)
    ·cases hh
     try simp only[dc,seval,-Int.reduceToNat,q2a,q2b,q2c,q2d,q2e,ax31,q33a,q33b,q33c,q33d,hr34,Zc]
     refine kH ?_
     refine⟨rfl,⟨v6c,?_,?_,?_,?_,?_,?_,?_⟩⟩
     all_goals first|rfl|(simp only[dc,seval,-Int.reduceToNat,q2a,q2b,q2c,q2d,q2e,ax31,q33a,q33b,q33c,q33d,hr34,Zc]<;>rfl)
   ·rintro x t H e hx
    obtain⟨s9cx,rfl⟩:∃z,z=o42:=⟨_,rfl⟩
    dsimp only at hx hh
    obtain⟨rfl,⟨v6cx,Zcx⟩⟩:=hx
    obtain⟨x50,hx50,hh⟩:=ae hh
    have ax50:=bG (eI .i64) hx50
    simp only[bU]at ax50
    have p51:=iz (eI .i64) (x':=s9cx) (fo:=0) (cs:=[.int .i64 s9cx]) hx50 rfl (Nat.le_of_ble_eq_true rfl)
    simp only[bU,Nat.add_zero]at p51
    have up51:=p51
    simp only[putCells,List.length_cons,List.length_nil,Nat.zero_add,Nat.reduceAdd]at up51
    have i52:=fV ([s9cx])
    simp only[aP,bU,List.length_cons,List.length_nil,Nat.zero_add,Nat.reduceAdd,List.length_set]at i52
    obtain⟨r53,hr53,hh⟩:=ae hh
    obtain⟨r54,hr54,hh⟩:=ae hh
    obtain⟨r55,hr55,hh⟩:=ae hh
    cases hh
    try simp only[dc,seval,-Int.reduceToNat,q2a,q2b,q2c,q2d,q2e,ax31,q33a,q33b,q33c,q33d,hr34,Zcx,ax50,p51,up51,i52,hr53,hr54,hr55]
    refine jB ?_
    refine⟨v6cx,?_,?_,?_,?_,?_,?_⟩
    all_goals first|rfl|(simp only[dc,seval,-Int.reduceToNat,q2a,q2b,q2c,q2d,q2e,ax31,q33a,q33b,q33c,q33d,hr34,Zcx,ax50,p51,up51,i52,hr53,hr54,hr55]<;>rfl)
  ·cases hh
   try simp only[dc,seval,-Int.reduceToNat,q2a,q2b,q2c,q2d,q2e,Za]
   refine kH ?_
   refine⟨rfl,⟨v6a,?_,?_,?_⟩⟩
   all_goals first|rfl|(simp only[dc,seval,-Int.reduceToNat,q2a,q2b,q2c,q2d,q2e,Za]<;>rfl)
 ·rintro x t H e hx
  rcases o29 with⟨s7ax,l6ax⟩
  dsimp only at hx hh
  obtain⟨rfl,⟨v6ax,Zax⟩⟩:=hx
  obtain⟨r56,hr56,hh⟩:=ae hh
  cases hh
  try simp only[dc,seval,-Int.reduceToNat,q2a,q2b,q2c,q2d,q2e,Zax,hr56]
theorem zY:bH Tryz.prog 151 qK:=bH.of (mode := .clean) tok JT mixed Tryz.func151 (by kernel_rfl) ⟨by kernel_rfl,by kernel_rfl⟩ (fun _=>Nat.le_of_ble_eq_true (by kernel_rfl)) (fun x r h=>M7 x.1 x.2 r h)
noncomputable def yz:=eL (ec (cJ fG) (dJ (cJ fG))) (fun x:an×an=>nW x.1 x.2) (fun r:an×Int =>.clean (.tup [.agg [.int .i64 r.1.ag,.sl false false r.1.aa.length (ab (eI .i64) r.1.aa)],.int .i64 r.2]))
theorem Gr (p0_0:Int) (p0_1:(List Int)) (p1_0:Int) (p1_1:(List Int)):yz none [.agg [.int .i64 p0_0,.sl false false p0_1.length (ab (eI .i64) p0_1)],.agg [.int .i64 p1_0,.sl false false p1_1.length (ab (eI .i64) p1_1)]]=(nW (an.mk p0_0 p0_1) (an.mk p1_0 p1_1)).map fun r:an×Int=>(.clean (.tup [.agg [.int .i64 r.1.ag,.sl false false r.1.aa.length (ab (eI .i64) r.1.aa)],.int .i64 r.2]),none):=aK _ _ _ ((an.mk p0_0 p0_1),(an.mk p1_0 p1_1))
noncomputable def u5:Env:=(Am.ext (Am.ext (Am.ext aS 111 false ko) 133 false lH) 151 false qK)
theorem MI:bN Tryz.prog u5:=(((bN.none.add nP false).add pG false).add zY false)
theorem eJ:type_of% (ai @w<|ai @ie<|ai @jj<|ai @rP<|@u5.eq_1):=⟨@w,@ie,@jj,@rP,@u5.eq_1⟩
theorem QO (p0:an) (p1:an) (r:an×Int) (hh:nW p0 p1=some r):aQ .clean tab u5 FU Tryz.f112 none [.agg [.int .i64 p0.ag,.sl false false p0.aa.length (ab (eI .i64) p0.aa)],.agg [.int .i64 p1.ag,.sl false false p1.aa.length (ab (eI .i64) p1.aa)]]=some (.clean (.tup [.agg [.int .i64 r.1.ag,.sl false false r.1.aa.length (ab (eI .i64) r.1.aa)],.int .i64 r.2]),none):=by
 refine av rfl Tryz.ntmps112 Tryz.results112 ?_
 unfold nW at hh
 obtain⟨r1,hr1,hh⟩:=ae hh
 try simp only[eJ,seval,-Int.reduceToNat,hr1]
 obtain⟨o2,ho2,hh⟩:=ae hh
 refine bD 0 (fun s t H e=>match s with|s17j1=>∃v2j1:Nat,∃v3j1:Nat,∃v4j1:Nat,t 2=.ptr 2 v2j1 0∧t 3=.ptr 3 v3j1 0∧t 4=.ptr 4 v4j1 0∧t 17=.bool s17j1∧H 2=some ⟨v2j1,49,[.int .i64 p0.ag,.sl false false p0.aa.length (ab (eI .i64) p0.aa)],false,false,false⟩∧H 3=some ⟨v3j1,49,[.int .i64 p1.ag,.sl false false p1.aa.length (ab (eI .i64) p1.aa)],false,false,false⟩∧H 4=some ⟨v4j1,49,[.int .i64 0,.sl true true 0 []],false,false,false⟩) (fun s=>s=o2) ?_ ?_
 ·rintro s17j1 t H e ⟨v2j1,v3j1,v4j1,Zj1⟩ rfl
  try dsimp only at hh
  try simp only[eJ,seval,-Int.reduceToNat,hr1,Zj1]
  refine sp aj hh (fun _ hh =>?_) (fun _ hh =>?_)
  ·cases hh
   try simp only[eJ,seval,-Int.reduceToNat,hr1,Zj1]
  ·try simp only[eJ,seval,-Int.reduceToNat,hr1,Zj1]
   obtain⟨o6,ho6,hh⟩:=ae hh
   refine aA (fun s t H e=>match s with|(s6b,s7b)=>∃v4b:Nat,t 4=.ptr 4 v4b 0∧t 6=.sl false false s6b.length (ab (eI .i64) s6b)∧t 7=.sl false false s7b.length (ab (eI .i64) s7b)∧H 4=some ⟨v4b,49,[.int .i64 0,.sl true true 0 []],false,false,false⟩) (fun o x t H e=>match o with|s6bx=>x=.exit 0∧∃v4bx:Nat,t 4=.ptr 4 v4bx 0∧t 6=.sl false false s6bx.length (ab (eI .i64) s6bx)∧H 4=some ⟨v4bx,49,[.int .i64 0,.sl true true 0 []],false,false,false⟩) ho6 ?_ ?_ ?_
   ·refine⟨v4j1,?_,?_,?_,?_⟩
    all_goals first|rfl|(simp only[eJ,seval,-Int.reduceToNat,hr1,Zj1]<;>rfl)
   ·rintro⟨s6b,s7b⟩ t H e ⟨v4b,Zb⟩ c hh
    simp only[oR]at hh
    try simp only[eJ,seval,-Int.reduceToNat,hr1,Zb]
    refine sp aj hh (fun _ hh =>?_) (fun _ hh =>?_)
    ·obtain⟨r8,hr8,hh⟩:=ae hh
     cases hh
     try simp only[eJ,seval,-Int.reduceToNat,hr1,Zb,hr8]
     refine jB ?_
     refine⟨v4b,?_,?_,?_,?_⟩
     all_goals first|rfl|(simp only[eJ,seval,-Int.reduceToNat,hr1,Zb,hr8]<;>rfl)
    ·cases hh
     try simp only[eJ,seval,-Int.reduceToNat,hr1,Zb]
     refine kH ?_
     refine⟨rfl,⟨v4b,?_,?_,?_⟩⟩
     all_goals first|rfl|(simp only[eJ,seval,-Int.reduceToNat,hr1,Zb]<;>rfl)
   ·rintro x t H e hx
    obtain⟨s6bx,rfl⟩:∃z,z=o6:=⟨_,rfl⟩
    dsimp only at hx hh
    obtain⟨rfl,⟨v4bx,Zbx⟩⟩:=hx
    obtain⟨r9,hr9,hh⟩:=ae hh
    cases hh
    try simp only[eJ,seval,-Int.reduceToNat,hr1,Zbx,hr9]
 ·clear hh
  have hh:=ho2
  try simp only[eJ,seval,-Int.reduceToNat,hr1]
  refine sp aU hh (fun _ hh =>?_) (fun _ hh =>?_)
  ·cases hh
   try simp only[eJ,seval,-Int.reduceToNat,hr1]
   rw[ak]
   refine⟨_,rfl,?_⟩
   refine⟨0,0,0,?_,?_,?_,?_,?_,?_,?_⟩
   all_goals first|rfl|(simp only[eJ,seval,-Int.reduceToNat,hr1]<;>rfl)
  ·obtain⟨r11,hr11,hh⟩:=ae hh
   cases hh
   try simp only[eJ,seval,-Int.reduceToNat,hr1,hr11]
   rw[ak]
   refine⟨_,rfl,?_⟩
   refine⟨0,0,0,?_,?_,?_,?_,?_,?_,?_⟩
   all_goals first|rfl|(simp only[eJ,seval,-Int.reduceToNat,hr1,hr11]<;>rfl)
theorem Nn:bH Tryz.prog 112 yz:=bH.of (mode := .clean) tok MI mixed Tryz.func112 (by kernel_rfl) ⟨by kernel_rfl,by kernel_rfl⟩ (fun _=>Nat.le_of_ble_eq_true (by kernel_rfl)) (fun x r h=>QO x.1 x.2 r h)
noncomputable def wH:=eL (ec (iE (eI .i64)) (dJ (iE (eI .i64)))) (fun x:(List Int)×(List Int)=>uj x.1 x.2) (fun r:(List Int) =>.clean (.sl false false r.length (ab (eI .i64) r)))
theorem wY (p0:(List Int)) (p1:(List Int)):wH none [.sl false false p0.length (ab (eI .i64) p0),.sl false false p1.length (ab (eI .i64) p1)]=(uj p0 p1).map fun r:(List Int)=>(.clean (.sl false false r.length (ab (eI .i64) r)),none):=aK _ _ _ (p0,p1)
noncomputable def rE:Env:=(Am.ext (Am.ext aS 169 false ka) 175 false kp)
theorem JU:bN Tryz.prog rE:=((bN.none.add mE false).add nQ false)
theorem dx:type_of% (ai @w<|ai @fV<|ai @ig<|@rE.eq_1):=⟨@w,@fV,@ig,@rE.eq_1⟩
theorem M8 (p0:(List Int)) (p1:(List Int)) (r:(List Int)) (hh:uj p0 p1=some r):aQ .clean tab rE FU Tryz.f167 none [.sl false false p0.length (ab (eI .i64) p0),.sl false false p1.length (ab (eI .i64) p1)]=some (.clean (.sl false false r.length (ab (eI .i64) r)),none):=by
 refine av rfl Tryz.ntmps167 Tryz.results167 ?_
 unfold uj at hh
 try simp only[dx,seval,-Int.reduceToNat]
 obtain⟨o13,ho13,hh⟩:=ae hh
 refine aA (fun s t H e=>match s with|(s6a,s7a,l5a)=>∃v5a:Nat,t 0=.sl false false p0.length (ab (eI .i64) p0)∧t 1=.sl false false p1.length (ab (eI .i64) p1)∧t 5=.buf 5 v5a 1 0 (l5a).length∧t 6=.int .i64 s6a∧t 7=.int .i64 s7a∧H 5=some ⟨v5a,3,ab (eI .i64) l5a,false,true,false⟩) (fun o x t H e=>match o with|l5ax=>x=.exit 0∧∃v5ax:Nat,t 5=.buf 5 v5ax 1 0 (l5ax).length∧H 5=some ⟨v5ax,3,ab (eI .i64) l5ax,false,true,false⟩) ho13 ?_ ?_ ?_
 ·refine⟨1,?_,?_,?_,?_,?_,?_⟩
  all_goals first|rfl|(simp only[dx,seval,-Int.reduceToNat]<;>rfl)
 ·rintro⟨s6a,s7a,l5a⟩ t H e ⟨v5a,Za⟩ c hh
  simp only[Al]at hh
  try simp only[dx,seval,-Int.reduceToNat,Za]
  obtain⟨o14,ho14,hh⟩:=ae hh
  refine bD 0 (fun s t H e=>match s with|s22j3=>∃v5j3:Nat,t 0=.sl false false p0.length (ab (eI .i64) p0)∧t 1=.sl false false p1.length (ab (eI .i64) p1)∧t 5=.buf 5 v5j3 1 0 (l5a).length∧t 6=.int .i64 s6a∧t 7=.int .i64 s7a∧t 22=.bool s22j3∧H 5=some ⟨v5j3,3,ab (eI .i64) l5a,false,true,false⟩) (fun s=>s=o14) ?_ ?_
  ·rintro s22j3 t H e ⟨v5j3,Zj3⟩ rfl
   try dsimp only at hh
   try simp only[dx,seval,-Int.reduceToNat,Zj3]
   refine sp aj hh (fun _ hh =>?_) (fun _ hh =>?_)
   ·obtain⟨r16,hr16,hh⟩:=ae hh
    obtain⟨r17,hr17,hh⟩:=ae hh
    obtain⟨x18,hx18,hh⟩:=ae hh
    have q19:=rL hx18
    obtain⟨x20,hx20,hh⟩:=ae hh
    obtain⟨q21a,q21b,q21c,q21d⟩:=fi (eI .i64) hx20
    simp only[bU]at q21b
    obtain⟨x22,hx22,hh⟩:=ae hh
    have q23:=rj hx22
    cases hh
    try simp only[dx,seval,-Int.reduceToNat,Zj3,hr16,hr17,q19,q21a,q21b,q21c,q21d,q23]
    refine jB ?_
    refine⟨e+1,?_,?_,?_,?_,?_,?_⟩
    all_goals first|rfl|(simp only[dx,seval,-Int.reduceToNat,Zj3,hr16,hr17,q19,q21a,q21b,q21c,q21d,q23]<;>rfl)
   ·cases hh
    try simp only[dx,seval,-Int.reduceToNat,Zj3]
    refine kH ?_
    refine⟨rfl,⟨v5j3,?_,?_⟩⟩
    all_goals first|rfl|(simp only[dx,seval,-Int.reduceToNat,Zj3]<;>rfl)
  ·clear hh
   have hh:=ho14
   try simp only[dx,seval,-Int.reduceToNat,Za]
   refine sp aU hh (fun _ hh =>?_) (fun _ hh =>?_)
   ·cases hh
    try simp only[dx,seval,-Int.reduceToNat,Za]
    rw[ak]
    refine⟨_,rfl,?_⟩
    refine⟨v5a,?_,?_,?_,?_,?_,?_,?_⟩
    all_goals first|rfl|(simp only[dx,seval,-Int.reduceToNat,Za]<;>rfl)
   ·try simp only[dx,seval,-Int.reduceToNat,Za]
    refine sp aU hh (fun _ hh =>?_) (fun _ hh =>?_)
    ·cases hh
     try simp only[dx,seval,-Int.reduceToNat,Za]
     rw[ak]
     refine⟨_,rfl,?_⟩
     refine⟨v5a,?_,?_,?_,?_,?_,?_,?_⟩
     all_goals first|rfl|(simp only[dx,seval,-Int.reduceToNat,Za]<;>rfl)
    ·cases hh
     try simp only[dx,seval,-Int.reduceToNat,Za]
     rw[ak]
     refine⟨_,rfl,?_⟩
     refine⟨v5a,?_,?_,?_,?_,?_,?_,?_⟩
     all_goals first|rfl|(simp only[dx,seval,-Int.reduceToNat,Za]<;>rfl)
 ·rintro x t H e hx
  obtain⟨l5ax,rfl⟩:∃z,z=o13:=⟨_,rfl⟩
  dsimp only at hx hh
  obtain⟨rfl,⟨v5ax,Zax⟩⟩:=hx
  obtain⟨r26,hr26,hh⟩:=ae hh
  cases hh
  try simp only[dx,seval,-Int.reduceToNat,Zax,hr26]
theorem K9:bH Tryz.prog 167 wH:=bH.of (mode := .clean) tok JU mixed Tryz.func167 (by kernel_rfl) ⟨by kernel_rfl,by kernel_rfl⟩ (fun _=>Nat.le_of_ble_eq_true (by kernel_rfl)) (fun x r h=>M8 x.1 x.2 r h)
noncomputable def yy:=eL (ec (cJ fG) (dJ (cJ fG))) (fun x:an×an=>mo x.1 x.2) (fun r:an×an×Int =>.clean (.tup [.agg [.int .i64 r.1.ag,.sl false false r.1.aa.length (ab (eI .i64) r.1.aa)],.agg [.int .i64 r.2.1.ag,.sl false false r.2.1.aa.length (ab (eI .i64) r.2.1.aa)],.int .i64 r.2.2]))
theorem Gq (p0_0:Int) (p0_1:(List Int)) (p1_0:Int) (p1_1:(List Int)):yy none [.agg [.int .i64 p0_0,.sl false false p0_1.length (ab (eI .i64) p0_1)],.agg [.int .i64 p1_0,.sl false false p1_1.length (ab (eI .i64) p1_1)]]=(mo (an.mk p0_0 p0_1) (an.mk p1_0 p1_1)).map fun r:an×an×Int=>(.clean (.tup [.agg [.int .i64 r.1.ag,.sl false false r.1.aa.length (ab (eI .i64) r.1.aa)],.agg [.int .i64 r.2.1.ag,.sl false false r.2.1.aa.length (ab (eI .i64) r.2.1.aa)],.int .i64 r.2.2]),none):=aK _ _ _ ((an.mk p0_0 p0_1),(an.mk p1_0 p1_1))
noncomputable def uZ:Env:=(Am.ext (Am.ext (Am.ext (Am.ext (Am.ext aS 111 false ko) 133 false lH) 151 false qK) 167 false wH) 168 false pc)
theorem MH:bN Tryz.prog uZ:=(((((bN.none.add nP false).add pG false).add zY false).add K9 false).add xT false)
theorem cX:type_of% (ai @w<|ai @ie<|ai @jj<|ai @rP<|ai @wY<|ai @pL<|@uZ.eq_1):=⟨@w,@ie,@jj,@rP,@wY,@pL,@uZ.eq_1⟩
theorem QN (p0:an) (p1:an) (r:an×an×Int) (hh:mo p0 p1=some r):aQ .clean tab uZ FU Tryz.f132 none [.agg [.int .i64 p0.ag,.sl false false p0.aa.length (ab (eI .i64) p0.aa)],.agg [.int .i64 p1.ag,.sl false false p1.aa.length (ab (eI .i64) p1.aa)]]=some (.clean (.tup [.agg [.int .i64 r.1.ag,.sl false false r.1.aa.length (ab (eI .i64) r.1.aa)],.agg [.int .i64 r.2.1.ag,.sl false false r.2.1.aa.length (ab (eI .i64) r.2.1.aa)],.int .i64 r.2.2]),none):=by
 refine av rfl Tryz.ntmps132 Tryz.results132 ?_
 unfold mo at hh
 obtain⟨r1,hr1,hh⟩:=ae hh
 try simp only[cX,seval,-Int.reduceToNat,hr1]
 obtain⟨o2,ho2,hh⟩:=ae hh
 refine bD 0 (fun s t H e=>match s with|s16j1=>∃v2j1:Nat,∃v3j1:Nat,∃v4j1:Nat,∃v5j1:Nat,t 2=.ptr 2 v2j1 0∧t 3=.ptr 3 v3j1 0∧t 4=.ptr 4 v4j1 0∧t 5=.ptr 5 v5j1 0∧t 16=.bool s16j1∧H 2=some ⟨v2j1,49,[.int .i64 p0.ag,.sl false false p0.aa.length (ab (eI .i64) p0.aa)],false,false,false⟩∧H 3=some ⟨v3j1,49,[.int .i64 p1.ag,.sl false false p1.aa.length (ab (eI .i64) p1.aa)],false,false,false⟩∧H 4=some ⟨v4j1,49,[.int .i64 0,.sl true true 0 []],false,false,false⟩∧H 5=some ⟨v5j1,49,[.int .i64 0,.sl true true 0 []],false,false,false⟩) (fun s=>s=o2) ?_ ?_
 ·rintro s16j1 t H e ⟨v2j1,v3j1,v4j1,v5j1,Zj1⟩ rfl
  try dsimp only at hh
  try simp only[cX,seval,-Int.reduceToNat,hr1,Zj1]
  refine sp aj hh (fun _ hh =>?_) (fun _ hh =>?_)
  ·cases hh
   try simp only[cX,seval,-Int.reduceToNat,hr1,Zj1]
  ·try simp only[cX,seval,-Int.reduceToNat,hr1,Zj1]
   refine sp aj hh (fun _ hh =>?_) (fun _ hh =>?_)
   ·cases hh
    try simp only[cX,seval,-Int.reduceToNat,hr1,Zj1]
   ·obtain⟨r5,hr5,hh⟩:=ae hh
    try simp only[cX,seval,-Int.reduceToNat,hr1,Zj1,hr5]
    obtain⟨o6,ho6,hh⟩:=ae hh
    refine bD 0 (fun s t H e=>match s with|s42j2=>∃v2j2:Nat,∃v3j2:Nat,∃v4j2:Nat,∃v5j2:Nat,t 2=.ptr 2 v2j2 0∧t 3=.ptr 3 v3j2 0∧t 4=.ptr 4 v4j2 0∧t 5=.ptr 5 v5j2 0∧t 7=.sl false false r5.1.length (ab (eI .i64) r5.1)∧t 8=.sl false false r5.2.length (ab (eI .i64) r5.2)∧t 42=.bool s42j2∧H 2=some ⟨v2j2,49,[.int .i64 p0.ag,.sl false false p0.aa.length (ab (eI .i64) p0.aa)],false,false,false⟩∧H 3=some ⟨v3j2,49,[.int .i64 p1.ag,.sl false false p1.aa.length (ab (eI .i64) p1.aa)],false,false,false⟩∧H 4=some ⟨v4j2,49,[.int .i64 0,.sl true true 0 []],false,false,false⟩∧H 5=some ⟨v5j2,49,[.int .i64 0,.sl true true 0 []],false,false,false⟩) (fun s=>s=o6) ?_ ?_
    ·rintro s42j2 t H e ⟨v2j2,v3j2,v4j2,v5j2,Zj2⟩ rfl
     try dsimp only at hh
     try simp only[cX,seval,-Int.reduceToNat,hr1,hr5,Zj2]
     refine sp aj hh (fun _ hh =>?_) (fun _ hh =>?_)
     ·obtain⟨r8,hr8,hh⟩:=ae hh
      obtain⟨r9,hr9,hh⟩:=ae hh
      try simp only[cX,seval,-Int.reduceToNat,hr1,hr5,Zj2,hr8,hr9]
      refine bI (by kernel_rfl) ?_
      cases hh
      try simp only[cX,seval,-Int.reduceToNat,hr1,hr5,Zj2,hr8,hr9]
     ·have i10:=wY r5.1 ([1])
      simp only[aP,bU,List.length_cons,List.length_nil,Nat.zero_add,Nat.reduceAdd,List.length_set]at i10
      obtain⟨r11,hr11,hh⟩:=ae hh
      obtain⟨r12,hr12,hh⟩:=ae hh
      obtain⟨r13,hr13,hh⟩:=ae hh
      obtain⟨r14,hr14,hh⟩:=ae hh
      try simp only[cX,seval,-Int.reduceToNat,hr1,hr5,Zj2,i10,hr11,hr12,hr13,hr14]
      refine bI (by kernel_rfl) ?_
      cases hh
      try simp only[cX,seval,-Int.reduceToNat,hr1,hr5,Zj2,i10,hr11,hr12,hr13,hr14]
    ·clear hh
     have hh:=ho6
     try simp only[cX,seval,-Int.reduceToNat,hr1,Zj1,hr5]
     refine sp aU hh (fun _ hh =>?_) (fun _ hh =>?_)
     ·cases hh
      try simp only[cX,seval,-Int.reduceToNat,hr1,Zj1,hr5]
      rw[ak]
      refine⟨_,rfl,?_⟩
      refine⟨v2j1,v3j1,v4j1,v5j1,?_,?_,?_,?_,?_,?_,?_,?_,?_,?_,?_⟩
      all_goals first|rfl|(simp only[cX,seval,-Int.reduceToNat,hr1,Zj1,hr5]<;>rfl)
     ·cases hh
      try simp only[cX,seval,-Int.reduceToNat,hr1,Zj1,hr5]
      rw[ak]
      refine⟨_,rfl,?_⟩
      refine⟨v2j1,v3j1,v4j1,v5j1,?_,?_,?_,?_,?_,?_,?_,?_,?_,?_,?_⟩
      all_goals first|rfl|(simp only[cX,seval,-Int.reduceToNat,hr1,Zj1,hr5]<;>rfl)
 ·clear hh
  have hh:=ho2
  try simp only[cX,seval,-Int.reduceToNat,hr1]
  refine sp aU hh (fun _ hh =>?_) (fun _ hh =>?_)
  ·cases hh
   try simp only[cX,seval,-Int.reduceToNat,hr1]
   rw[ak]
   refine⟨_,rfl,?_⟩
   refine⟨0,0,0,0,?_,?_,?_,?_,?_,?_,?_,?_,?_⟩
   all_goals first|rfl|(simp only[cX,seval,-Int.reduceToNat,hr1]<;>rfl)
  ·obtain⟨r17,hr17,hh⟩:=ae hh
   cases hh
   try simp only[cX,seval,-Int.reduceToNat,hr1,hr17]
   rw[ak]
   refine⟨_,rfl,?_⟩
   refine⟨0,0,0,0,?_,?_,?_,?_,?_,?_,?_,?_,?_⟩
   all_goals first|rfl|(simp only[cX,seval,-Int.reduceToNat,hr1,hr17]<;>rfl)
theorem Nl:bH Tryz.prog 132 yy:=bH.of (mode := .clean) tok MH mixed Tryz.func132 (by kernel_rfl) ⟨by kernel_rfl,by kernel_rfl⟩ (fun _=>Nat.le_of_ble_eq_true (by kernel_rfl)) (fun x r h=>QN x.1 x.2 r h)
noncomputable def yC:=eL (ec (cJ fG) (dJ (cJ fG))) (fun x:an×an=>rT x.1 x.2) (fun r:aF×Int =>.clean (.tup [.agg [.int .i64 r.1.bx.ag,.sl false false r.1.bx.aa.length (ab (eI .i64) r.1.bx.aa),.int .i64 r.1.bt.ag,.sl false false r.1.bt.aa.length (ab (eI .i64) r.1.bt.aa)],.int .i64 r.2]))
theorem Gu (p0_0:Int) (p0_1:(List Int)) (p1_0:Int) (p1_1:(List Int)):yC none [.agg [.int .i64 p0_0,.sl false false p0_1.length (ab (eI .i64) p0_1)],.agg [.int .i64 p1_0,.sl false false p1_1.length (ab (eI .i64) p1_1)]]=(rT (an.mk p0_0 p0_1) (an.mk p1_0 p1_1)).map fun r:aF×Int=>(.clean (.tup [.agg [.int .i64 r.1.bx.ag,.sl false false r.1.bx.aa.length (ab (eI .i64) r.1.bx.aa),.int .i64 r.1.bt.ag,.sl false false r.1.bt.aa.length (ab (eI .i64) r.1.bt.aa)],.int .i64 r.2]),none):=aK _ _ _ ((an.mk p0_0 p0_1),(an.mk p1_0 p1_1))
noncomputable def u9:Env:=(Am.ext (Am.ext (Am.ext (Am.ext aS 111 false ko) 112 false yz) 131 false yA) 132 false yy)
theorem ML:bN Tryz.prog u9:=((((bN.none.add nP false).add Nn false).add No false).add Nl false)
theorem eo:type_of% (ai @w<|ai @ie<|ai @Gr<|ai @Gs<|ai @Gq<|@u9.eq_1):=⟨@w,@ie,@Gr,@Gs,@Gq,@u9.eq_1⟩
theorem QS (p0:an) (p1:an) (r:aF×Int) (hh:rT p0 p1=some r):aQ .clean tab u9 FU Tryz.f102 none [.agg [.int .i64 p0.ag,.sl false false p0.aa.length (ab (eI .i64) p0.aa)],.agg [.int .i64 p1.ag,.sl false false p1.aa.length (ab (eI .i64) p1.aa)]]=some (.clean (.tup [.agg [.int .i64 r.1.bx.ag,.sl false false r.1.bx.aa.length (ab (eI .i64) r.1.bx.aa),.int .i64 r.1.bt.ag,.sl false false r.1.bt.aa.length (ab (eI .i64) r.1.bt.aa)],.int .i64 r.2]),none):=by
 refine av rfl Tryz.ntmps102 Tryz.results102 ?_
 unfold rT at hh
 obtain⟨r1,hr1,hh⟩:=ae hh
 try simp only[eo,seval,-Int.reduceToNat,hr1]
 obtain⟨o2,ho2,hh⟩:=ae hh
 refine bD 0 (fun s t H e=>match s with|s21j1=>∃v2j1:Nat,∃v3j1:Nat,∃v4j1:Nat,t 2=.ptr 2 v2j1 0∧t 3=.ptr 3 v3j1 0∧t 4=.ptr 4 v4j1 0∧t 21=.bool s21j1∧H 2=some ⟨v2j1,49,[.int .i64 p0.ag,.sl false false p0.aa.length (ab (eI .i64) p0.aa)],false,false,false⟩∧H 3=some ⟨v3j1,49,[.int .i64 p1.ag,.sl false false p1.aa.length (ab (eI .i64) p1.aa)],false,false,false⟩∧H 4=some ⟨v4j1,51,[.int .i64 0,.sl true true 0 [],.int .i64 0,.sl true true 0 []],false,false,false⟩) (fun s=>s=o2) ?_ ?_
 ·rintro s21j1 t H e ⟨v2j1,v3j1,v4j1,Zj1⟩ rfl
  try dsimp only at hh
  try simp only[eo,seval,-Int.reduceToNat,hr1,Zj1]
  refine sp aj hh (fun _ hh =>?_) (fun _ hh =>?_)
  ·cases hh
   try simp only[eo,seval,-Int.reduceToNat,hr1,Zj1]
  ·try simp only[eo,seval,-Int.reduceToNat,hr1,Zj1]
   refine sp aj hh (fun _ hh =>?_) (fun _ hh =>?_)
   ·cases hh
    try simp only[eo,seval,-Int.reduceToNat,hr1,Zj1]
   ·try simp only[eo,seval,-Int.reduceToNat,hr1,Zj1]
    obtain⟨o5,ho5,hh⟩:=ae hh
    refine iK 0 (fun s t H e=>match s with|(r2_0j2,r2_1j2,r3_0j2,r3_1j2)=>∃v2j2:Nat,∃v3j2:Nat,∃v4j2:Nat,t 2=.ptr 2 v2j2 0∧t 3=.ptr 3 v3j2 0∧t 4=.ptr 4 v4j2 0∧H 2=some ⟨v2j2,49,[.int .i64 r2_0j2,.sl false false r2_1j2.length (ab (eI .i64) r2_1j2)],false,false,false⟩∧H 3=some ⟨v3j2,49,[.int .i64 r3_0j2,.sl false false r3_1j2.length (ab (eI .i64) r3_1j2)],false,false,false⟩∧H 4=some ⟨v4j2,51,[.int .i64 0,.sl true true 0 [],.int .i64 0,.sl true true 0 []],false,false,false⟩) (fun s=>s=o5) ?_ ?_
    ·rintro⟨r2_0j2,r2_1j2,r3_0j2,r3_1j2⟩ t H e ⟨v2j2,v3j2,v4j2,Zj2⟩ rfl
     try dsimp only at hh
     obtain⟨r6,hr6,hh⟩:=ae hh
     obtain⟨r7,hr7,hh⟩:=ae hh
     obtain⟨r8,hr8,hh⟩:=ae hh
     cases hh
     try simp only[eo,seval,-Int.reduceToNat,hr1,Zj2,hr6,hr7,hr8]
    ·clear hh
     have hh:=ho5
     try simp only[eo,seval,-Int.reduceToNat,hr1,Zj1]
     refine sp aj hh (fun _ hh =>?_) (fun _ hh =>?_)
     ·obtain⟨r10,hr10,hh⟩:=ae hh
      obtain⟨r11,hr11,hh⟩:=ae hh
      cases hh
      try simp only[eo,seval,-Int.reduceToNat,hr1,Zj1,hr10,hr11]
      rw[ak]
      refine⟨_,rfl,?_⟩
      refine⟨v2j1,v3j1,v4j1,?_,?_,?_,?_,?_,?_⟩
      all_goals first|rfl|(simp only[eo,seval,-Int.reduceToNat,hr1,Zj1,hr10,hr11]<;>rfl)
     ·cases hh
      try simp only[eo,seval,-Int.reduceToNat,hr1,Zj1]
      rw[ak]
      refine⟨_,rfl,?_⟩
      refine⟨v2j1,v3j1,v4j1,?_,?_,?_,?_,?_,?_⟩
      all_goals first|rfl|(simp only[eo,seval,-Int.reduceToNat,hr1,Zj1]<;>rfl)
 ·clear hh
  have hh:=ho2
  try simp only[eo,seval,-Int.reduceToNat,hr1]
  refine sp aU hh (fun _ hh =>?_) (fun _ hh =>?_)
  ·cases hh
   try simp only[eo,seval,-Int.reduceToNat,hr1]
   rw[ak]
   refine⟨_,rfl,?_⟩
   refine⟨0,0,0,?_,?_,?_,?_,?_,?_,?_⟩
   all_goals first|rfl|(simp only[eo,seval,-Int.reduceToNat,hr1]<;>rfl)
  ·obtain⟨r13,hr13,hh⟩:=ae hh
   cases hh
   try simp only[eo,seval,-Int.reduceToNat,hr1,hr13]
   rw[ak]
   refine⟨_,rfl,?_⟩
   refine⟨0,0,0,?_,?_,?_,?_,?_,?_,?_⟩
   all_goals first|rfl|(simp only[eo,seval,-Int.reduceToNat,hr1,hr13]<;>rfl)
theorem Nq:bH Tryz.prog 102 yC:=bH.of (mode := .clean) tok ML mixed Tryz.func102 (by kernel_rfl) ⟨by kernel_rfl,by kernel_rfl⟩ (fun _=>Nat.le_of_ble_eq_true (by kernel_rfl)) (fun x r h=>QS x.1 x.2 r h)
noncomputable def Bj:=eL (ec (aI .i64) (dJ (aI .i64))) (fun x:Int×Int=>w6 x.1 x.2) (fun r:aF×Int =>.clean (.tup [.agg [.int .i64 r.1.bx.ag,.sl false false r.1.bx.aa.length (ab (eI .i64) r.1.bx.aa),.int .i64 r.1.bt.ag,.sl false false r.1.bt.aa.length (ab (eI .i64) r.1.bt.aa)],.int .i64 r.2]))
theorem Li (p0:Int) (p1:Int):Bj none [.int .i64 p0,.int .i64 p1]=(w6 p0 p1).map fun r:aF×Int=>(.clean (.tup [.agg [.int .i64 r.1.bx.ag,.sl false false r.1.bx.aa.length (ab (eI .i64) r.1.bx.aa),.int .i64 r.1.bt.ag,.sl false false r.1.bt.aa.length (ab (eI .i64) r.1.bt.aa)],.int .i64 r.2]),none):=aK _ _ _ (p0,p1)
noncomputable def xK:Env:=(Am.ext (Am.ext aS 102 false yC) 103 false Bi)
theorem Qy:bN Tryz.prog xK:=((bN.none.add Nq false).add Q2 false)
theorem UQ:type_of% (ai @w<|ai @Gu<|ai @Lh<|@xK.eq_1):=⟨@w,@Gu,@Lh,@xK.eq_1⟩
theorem Tm (p0:Int) (p1:Int) (r:aF×Int) (hh:w6 p0 p1=some r):aQ .clean tab xK FU Tryz.f59 none [.int .i64 p0,.int .i64 p1]=some (.clean (.tup [.agg [.int .i64 r.1.bx.ag,.sl false false r.1.bx.aa.length (ab (eI .i64) r.1.bx.aa),.int .i64 r.1.bt.ag,.sl false false r.1.bt.aa.length (ab (eI .i64) r.1.bt.aa)],.int .i64 r.2]),none):=by
 refine av rfl Tryz.ntmps59 Tryz.results59 ?_
 unfold w6 at hh
 obtain⟨r1,hr1,hh⟩:=ae hh
 obtain⟨r2,hr2,hh⟩:=ae hh
 obtain⟨r3,hr3,hh⟩:=ae hh
 cases hh
 try simp only[UQ,seval,-Int.reduceToNat,hr1,hr2,hr3]
theorem Q3:bH Tryz.prog 59 Bj:=bH.of (mode := .clean) tok Qy mixed Tryz.func59 (by kernel_rfl) ⟨by kernel_rfl,by kernel_rfl⟩ (fun _=>Nat.le_of_ble_eq_true (by kernel_rfl)) (fun x r h=>Tm x.1 x.2 r h)
noncomputable def uC:=eL (dJ (aI .i64)) (fun x:Int=>n5 x) (fun r:aF =>.clean (.agg [.int .i64 r.bx.ag,.sl false false r.bx.aa.length (ab (eI .i64) r.bx.aa),.int .i64 r.bt.ag,.sl false false r.bt.aa.length (ab (eI .i64) r.bt.aa)]))
theorem vg (p0:Int):uC none [.int .i64 p0]=(n5 p0).map fun r:aF=>(.clean (.agg [.int .i64 r.bx.ag,.sl false false r.bx.aa.length (ab (eI .i64) r.bx.aa),.int .i64 r.bt.ag,.sl false false r.bt.aa.length (ab (eI .i64) r.bt.aa)]),none):=aK _ _ _ (p0)
noncomputable def u7:Env:=(Am.ext aS 59 false Bj)
theorem MK:bN Tryz.prog u7:=(bN.none.add Q3 false)
theorem Rv:type_of% (ai @w<|ai @Li<|@u7.eq_1):=⟨@w,@Li,@u7.eq_1⟩
theorem QR (p0:Int) (r:aF) (hh:n5 p0=some r):aQ .clean tab u7 FU Tryz.f32 none [.int .i64 p0]=some (.clean (.agg [.int .i64 r.bx.ag,.sl false false r.bx.aa.length (ab (eI .i64) r.bx.aa),.int .i64 r.bt.ag,.sl false false r.bt.aa.length (ab (eI .i64) r.bt.aa)]),none):=by
 refine av rfl Tryz.ntmps32 Tryz.results32 ?_
 unfold n5 at hh
 obtain⟨r1,hr1,hh⟩:=ae hh
 cases hh
 try simp only[Rv,seval,-Int.reduceToNat,hr1]
theorem C3:bH Tryz.prog 32 uC:=bH.of (mode := .clean) tok MK mixed Tryz.func32 (by kernel_rfl) ⟨by kernel_rfl,by kernel_rfl⟩ (fun _=>Nat.le_of_ble_eq_true (by kernel_rfl)) (fun x r h=>QR x r h)
noncomputable def lX:=eL (ec (aI .i64) (dJ (aI .i64))) (fun x:Int×Int=>fe x.1 x.2) (fun r:bK =>.clean (.agg [.int .i64 r.aH.bx.ag,.sl false false r.aH.bx.aa.length (ab (eI .i64) r.aH.bx.aa),.int .i64 r.aH.bt.ag,.sl false false r.aH.bt.aa.length (ab (eI .i64) r.aH.bt.aa),.int .i64 r.az.bx.ag,.sl false false r.az.bx.aa.length (ab (eI .i64) r.az.bx.aa),.int .i64 r.az.bt.ag,.sl false false r.az.bt.aa.length (ab (eI .i64) r.az.bt.aa)]))
theorem ml (p0:Int) (p1:Int):lX none [.int .i64 p0,.int .i64 p1]=(fe p0 p1).map fun r:bK=>(.clean (.agg [.int .i64 r.aH.bx.ag,.sl false false r.aH.bx.aa.length (ab (eI .i64) r.aH.bx.aa),.int .i64 r.aH.bt.ag,.sl false false r.aH.bt.aa.length (ab (eI .i64) r.aH.bt.aa),.int .i64 r.az.bx.ag,.sl false false r.az.bx.aa.length (ab (eI .i64) r.az.bx.aa),.int .i64 r.az.bt.ag,.sl false false r.az.bt.aa.length (ab (eI .i64) r.az.bt.aa)]),none):=aK _ _ _ (p0,p1)
noncomputable def mc:Env:=(Am.ext aS 32 false uC)
theorem Cv:bN Tryz.prog mc:=(bN.none.add C3 false)
theorem EL:type_of% (ai @w<|ai @vg<|@mc.eq_1):=⟨@w,@vg,@mc.eq_1⟩
theorem Eo (p0:Int) (p1:Int) (r:bK) (hh:fe p0 p1=some r):aQ .clean tab mc FU Tryz.f35 none [.int .i64 p0,.int .i64 p1]=some (.clean (.agg [.int .i64 r.aH.bx.ag,.sl false false r.aH.bx.aa.length (ab (eI .i64) r.aH.bx.aa),.int .i64 r.aH.bt.ag,.sl false false r.aH.bt.aa.length (ab (eI .i64) r.aH.bt.aa),.int .i64 r.az.bx.ag,.sl false false r.az.bx.aa.length (ab (eI .i64) r.az.bx.aa),.int .i64 r.az.bt.ag,.sl false false r.az.bt.aa.length (ab (eI .i64) r.az.bt.aa)]),none):=by
 refine av rfl Tryz.ntmps35 Tryz.results35 ?_
 unfold fe at hh
 obtain⟨r1,hr1,hh⟩:=ae hh
 obtain⟨r2,hr2,hh⟩:=ae hh
 cases hh
 try simp only[EL,seval,-Int.reduceToNat,hr1,hr2]
theorem uc:bH Tryz.prog 35 lX:=bH.of (mode := .clean) tok Cv mixed Tryz.func35 (by kernel_rfl) ⟨by kernel_rfl,by kernel_rfl⟩ (fun _=>Nat.le_of_ble_eq_true (by kernel_rfl)) (fun x r h=>Eo x.1 x.2 r h)
noncomputable def fa:=eL (dJ (cJ fG)) (fun x:an=>cA x) (fun r:Bool =>.clean (.bool r))
theorem cz (p0_0:Int) (p0_1:(List Int)):fa none [.agg [.int .i64 p0_0,.sl false false p0_1.length (ab (eI .i64) p0_1)]]=(cA (an.mk p0_0 p0_1)).map fun r:Bool=>(.clean (.bool r),none):=aK _ _ _ ((an.mk p0_0 p0_1))
theorem Kx (p0:an) (r:Bool) (hh:cA p0=some r):aQ .clean tab aS FU Tryz.f97 none [.agg [.int .i64 p0.ag,.sl false false p0.aa.length (ab (eI .i64) p0.aa)]]=some (.clean (.bool r),none):=by
 refine av rfl Tryz.ntmps97 Tryz.results97 ?_
 unfold cA at hh
 try simp only[w,seval,-Int.reduceToNat]
 obtain⟨o5,ho5,hh⟩:=ae hh
 refine aA (fun s t H e=>match s with|s12a=>∃v1a:Nat,t 1=.ptr 1 v1a 0∧t 3=.int .i64 (p0.aa.length:Int)∧t 10=.sl false false p0.aa.length (ab (eI .i64) p0.aa)∧t 11=.int .i64 (p0.aa.length:Int)∧t 12=.int .i64 s12a∧H 1=some ⟨v1a,49,[.int .i64 p0.ag,.sl false false p0.aa.length (ab (eI .i64) p0.aa)],false,false,false⟩) (fun o x t H e=>match o with|(.inl _)=>x=.exit 0∧∃v1ax:Nat,t 1=.ptr 1 v1ax 0∧t 3=.int .i64 (p0.aa.length:Int)∧H 1=some ⟨v1ax,49,[.int .i64 p0.ag,.sl false false p0.aa.length (ab (eI .i64) p0.aa)],false,false,false⟩|(.inr r)=>x=.ret∧gW .clean tab none [.tmp 2] ⟨t,H,e⟩=some (.clean (.bool r),none)) ho5 ?_ ?_ ?_
 ·refine⟨0,?_,?_,?_,?_,?_,?_⟩
  all_goals first|rfl|(simp only[w,seval,-Int.reduceToNat]<;>rfl)
 ·rintro s12a t H e ⟨v1a,Za⟩ c hh
  simp only[nw]at hh
  try simp only[w,seval,-Int.reduceToNat,Za]
  refine sp aj hh (fun _ hh =>?_) (fun _ hh =>?_)
  ·obtain⟨x7,hx7,hh⟩:=ae hh
   have ax7:=bG (eI .i64) hx7
   simp only[bU]at ax7
   try simp only[w,seval,-Int.reduceToNat,Za,ax7]
   refine sp aU hh (fun _ hh =>?_) (fun _ hh =>?_)
   ·cases hh
    try simp only[w,seval,-Int.reduceToNat,Za,ax7]
    refine yZ ⟨rfl,?_⟩
    try simp only[w,seval,-Int.reduceToNat,Za,ax7]
   ·try simp only[w,seval,-Int.reduceToNat,Za,ax7]
    refine sp aj hh (fun _ hh =>?_) (fun _ hh =>?_)
    ·cases hh
     try simp only[w,seval,-Int.reduceToNat,Za,ax7]
     refine yZ ⟨rfl,?_⟩
     try simp only[w,seval,-Int.reduceToNat,Za,ax7]
    ·cases hh
     try simp only[w,seval,-Int.reduceToNat,Za,ax7]
     refine jB ?_
     refine⟨v1a,?_,?_,?_,?_,?_,?_⟩
     all_goals first|rfl|(simp only[w,seval,-Int.reduceToNat,Za,ax7]<;>rfl)
  ·cases hh
   try simp only[w,seval,-Int.reduceToNat,Za]
   refine kH ?_
   refine⟨rfl,⟨v1a,?_,?_,?_⟩⟩
   all_goals first|rfl|(simp only[w,seval,-Int.reduceToNat,Za]<;>rfl)
 ·rintro x t H e hx
  rcases o5 with _|ra
  ·dsimp only at hx hh
   obtain⟨rfl,⟨v1ax,Zax⟩⟩:=hx
   try simp only[w,seval,-Int.reduceToNat,Zax]
   refine sp aj hh (fun _ hh =>?_) (fun _ hh =>?_)
   ·cases hh
    try simp only[w,seval,-Int.reduceToNat,Zax]
   ·try simp only[w,seval,-Int.reduceToNat,Zax]
    refine sp aU hh (fun _ hh =>?_) (fun _ hh =>?_)
    ·obtain⟨x12,hx12,hh⟩:=ae hh
     have ax12:=bG (eI .i64) hx12
     simp only[bU]at ax12
     cases hh
     try simp only[w,seval,-Int.reduceToNat,Zax,ax12]
    ·try simp only[w,seval,-Int.reduceToNat,Zax]
     refine sp bJ hh (fun _ hh =>?_) (fun _ hh =>?_)
     ·obtain⟨x14,hx14,hh⟩:=ae hh
      have ax14:=bG (eI .i64) hx14
      simp only[bU]at ax14
      cases hh
      try simp only[w,seval,-Int.reduceToNat,Zax,ax14]
     ·cases hh
      try simp only[w,seval,-Int.reduceToNat,Zax]
  ·dsimp only at hx hh
   obtain⟨rfl,hE⟩:=hx
   cases hh
   try simp only[bq,bj,bF,dr,dq]
   exact hE
theorem fE:bH Tryz.prog 97 fa:=bH.of (mode := .clean) tok bN.none mixed Tryz.func97 (by kernel_rfl) ⟨by kernel_rfl,by kernel_rfl⟩ (fun _=>Nat.le_of_ble_eq_true (by kernel_rfl)) (fun x r h=>Kx x r h)
noncomputable def jH:=eL (ec XT (dJ (cJ fG))) (fun x:Bool×an=>eg x.1 x.2) (fun r:an×Int =>.clean (.tup [.agg [.int .i64 r.1.ag,.sl false false r.1.aa.length (ab (eI .i64) r.1.aa)],.int .i64 r.2]))
theorem eY (p0:Bool) (p1_0:Int) (p1_1:(List Int)):jH none [.bool p0,.agg [.int .i64 p1_0,.sl false false p1_1.length (ab (eI .i64) p1_1)]]=(eg p0 (an.mk p1_0 p1_1)).map fun r:an×Int=>(.clean (.tup [.agg [.int .i64 r.1.ag,.sl false false r.1.aa.length (ab (eI .i64) r.1.aa)],.int .i64 r.2]),none):=aK _ _ _ (p0,(an.mk p1_0 p1_1))
theorem El (p0:Bool) (p1:an) (r:an×Int) (hh:eg p0 p1=some r):aQ .clean tab aS FU Tryz.f124 none [.bool p0,.agg [.int .i64 p1.ag,.sl false false p1.aa.length (ab (eI .i64) p1.aa)]]=some (.clean (.tup [.agg [.int .i64 r.1.ag,.sl false false r.1.aa.length (ab (eI .i64) r.1.aa)],.int .i64 r.2]),none):=by
 refine av rfl Tryz.ntmps124 Tryz.results124 ?_
 unfold eg at hh
 try simp only[w,seval,-Int.reduceToNat]
 refine sp aj hh (fun _ hh =>?_) (fun _ hh =>?_)
 ·cases hh
  try simp only[w,seval,-Int.reduceToNat]
 ·cases hh
  try simp only[w,seval,-Int.reduceToNat]
theorem oN:bH Tryz.prog 124 jH:=bH.of (mode := .clean) tok bN.none mixed Tryz.func124 (by kernel_rfl) ⟨by kernel_rfl,by kernel_rfl⟩ (fun _=>Nat.le_of_ble_eq_true (by kernel_rfl)) (fun x r h=>El x.1 x.2 r h)
noncomputable def pb:=eL (dJ (aI .i64)) (fun x:Int=>jt x) (fun r:Bool =>.clean (.bool r))
theorem pJ (p0:Int):pb none [.int .i64 p0]=(jt p0).map fun r:Bool=>(.clean (.bool r),none):=aK _ _ _ (p0)
theorem Kz (p0:Int) (r:Bool) (hh:jt p0=some r):aQ .clean tab aS FU Tryz.f166 none [.int .i64 p0]=some (.clean (.bool r),none):=by
 refine av rfl Tryz.ntmps166 Tryz.results166 ?_
 unfold jt at hh
 cases hh
 try simp only[w,seval,-Int.reduceToNat]
theorem xS:bH Tryz.prog 166 pb:=bH.of (mode := .clean) tok bN.none mixed Tryz.func166 (by kernel_rfl) ⟨by kernel_rfl,by kernel_rfl⟩ (fun _=>Nat.le_of_ble_eq_true (by kernel_rfl)) (fun x r h=>Kz x r h)
noncomputable def lW:=eL (ec (aI .i64) (dJ (aI .i64))) (fun x:Int×Int=>gn x.1 x.2) (fun r:Int =>.clean (.int .i64 r))
theorem mj (p0:Int) (p1:Int):lW none [.int .i64 p0,.int .i64 p1]=(gn p0 p1).map fun r:Int=>(.clean (.int .i64 r),none):=aK _ _ _ (p0,p1)
noncomputable def ma:Env:=(Am.ext aS 166 false pb)
theorem Cu:bN Tryz.prog ma:=(bN.none.add xS false)
theorem dQ:type_of% (ai @w<|ai @pJ<|@ma.eq_1):=⟨@w,@pJ,@ma.eq_1⟩
theorem En (p0:Int) (p1:Int) (r:Int) (hh:gn p0 p1=some r):aQ .clean tab ma FU Tryz.f128 none [.int .i64 p0,.int .i64 p1]=some (.clean (.int .i64 r),none):=by
 refine av rfl Tryz.ntmps128 Tryz.results128 ?_
 unfold gn at hh
 obtain⟨r1,hr1,hh⟩:=ae hh
 obtain⟨r2,hr2,hh⟩:=ae hh
 try simp only[dQ,seval,-Int.reduceToNat,hr1,hr2]
 refine sp aj hh (fun _ hh =>?_) (fun _ hh =>?_)
 ·try simp only[dQ,seval,-Int.reduceToNat,hr1,hr2]
  refine sp aj hh (fun _ hh =>?_) (fun _ hh =>?_)
  ·cases hh
   try simp only[dQ,seval,-Int.reduceToNat,hr1,hr2]
  ·cases hh
   try simp only[dQ,seval,-Int.reduceToNat,hr1,hr2]
 ·try simp only[dQ,seval,-Int.reduceToNat,hr1,hr2]
  refine sp aj hh (fun _ hh =>?_) (fun _ hh =>?_)
  ·cases hh
   try simp only[dQ,seval,-Int.reduceToNat,hr1,hr2]
  ·try simp only[dQ,seval,-Int.reduceToNat,hr1,hr2]
   refine sp aj hh (fun _ hh =>?_) (fun _ hh =>?_)
   ·cases hh
    try simp only[dQ,seval,-Int.reduceToNat,hr1,hr2]
   ·try simp only[dQ,seval,-Int.reduceToNat,hr1,hr2]
    refine sp aj hh (fun _ hh =>?_) (fun _ hh =>?_)
    ·cases hh
     try simp only[dQ,seval,-Int.reduceToNat,hr1,hr2]
    ·cases hh
     try simp only[dQ,seval,-Int.reduceToNat,hr1,hr2]
theorem ub:bH Tryz.prog 128 lW:=bH.of (mode := .clean) tok Cu mixed Tryz.func128 (by kernel_rfl) ⟨by kernel_rfl,by kernel_rfl⟩ (fun _=>Nat.le_of_ble_eq_true (by kernel_rfl)) (fun x r h=>En x.1 x.2 r h)
noncomputable def jI:=eL (ec (iE (eI .i64)) (dJ (iE (eI .i64)))) (fun x:(List Int)×(List Int)=>fb x.1 x.2) (fun r:Int =>.clean (.int .i64 r))
theorem iQ (p0:(List Int)) (p1:(List Int)):jI none [.sl false false p0.length (ab (eI .i64) p0),.sl false false p1.length (ab (eI .i64) p1)]=(fb p0 p1).map fun r:Int=>(.clean (.int .i64 r),none):=aK _ _ _ (p0,p1)
noncomputable def l9:Env:=(Am.ext aS 128 false lW)
theorem Ct:bN Tryz.prog l9:=(bN.none.add ub false)
theorem cH:type_of% (ai @w<|ai @mj<|@l9.eq_1):=⟨@w,@mj,@l9.eq_1⟩
theorem Em (p0:(List Int)) (p1:(List Int)) (r:Int) (hh:fb p0 p1=some r):aQ .clean tab l9 FU Tryz.f129 none [.sl false false p0.length (ab (eI .i64) p0),.sl false false p1.length (ab (eI .i64) p1)]=some (.clean (.int .i64 r),none):=by
 refine av rfl Tryz.ntmps129 Tryz.results129 ?_
 unfold fb at hh
 try simp only[cH,seval,-Int.reduceToNat]
 refine sp aj hh (fun _ hh =>?_) (fun _ hh =>?_)
 ·obtain⟨r2,hr2,hh⟩:=ae hh
  cases hh
  try simp only[cH,seval,-Int.reduceToNat,hr2]
 ·try simp only[cH,seval,-Int.reduceToNat]
  obtain⟨o8,ho8,hh⟩:=ae hh
  refine aA (fun s t H e=>match s with|s5a=>t 0=.sl false false p0.length (ab (eI .i64) p0)∧t 1=.sl false false p1.length (ab (eI .i64) p1)∧t 5=.int .i64 s5a) (fun o x t H e=>match o with|(.inl _)=>x=.exit 0|(.inr r)=>x=.ret∧gW .clean tab none [.tmp 4] ⟨t,H,e⟩=some (.clean (.int .i64 r),none)) ho8 ?_ ?_ ?_
  ·refine⟨?_,?_,?_⟩
   all_goals first|rfl|(simp only[cH,seval,-Int.reduceToNat]<;>rfl)
  ·rintro s5a t H e Za c hh
   simp only[kN]at hh
   try simp only[cH,seval,-Int.reduceToNat,Za]
   refine sp aj hh (fun _ hh =>?_) (fun _ hh =>?_)
   ·obtain⟨x10,hx10,hh⟩:=ae hh
    have ax10:=bG (eI .i64) hx10
    simp only[bU]at ax10
    obtain⟨x11,hx11,hh⟩:=ae hh
    have ax11:=bG (eI .i64) hx11
    simp only[bU]at ax11
    try simp only[cH,seval,-Int.reduceToNat,Za,ax10,ax11]
    refine bI (by kernel_rfl) ?_
    try simp only[cH,seval,-Int.reduceToNat,Za,ax10,ax11]
    refine sp aj hh (fun _ hh =>?_) (fun _ hh =>?_)
    ·have ax10:=bG (eI .i64) hx10
     simp only[bU]at ax10
     have ax11:=bG (eI .i64) hx11
     simp only[bU]at ax11
     obtain⟨r13,hr13,hh⟩:=ae hh
     try simp only[cH,seval,-Int.reduceToNat,Za,ax10,ax11,ax10,ax11,hr13]
     refine bI (by kernel_rfl) ?_
     cases hh
     try simp only[cH,seval,-Int.reduceToNat,Za,ax10,ax11,ax10,ax11,hr13]
     refine yZ ⟨rfl,?_⟩
     try simp only[cH,seval,-Int.reduceToNat,Za,ax10,ax11,ax10,ax11,hr13]
    ·cases hh
     try simp only[cH,seval,-Int.reduceToNat,Za,ax10,ax11]
     refine jB ?_
     refine⟨?_,?_,?_⟩
     all_goals first|rfl|(simp only[cH,seval,-Int.reduceToNat,Za,ax10,ax11]<;>rfl)
   ·cases hh
    try simp only[cH,seval,-Int.reduceToNat,Za]
    refine kH ?_
    exact rfl
  ·rintro x t H e hx
   rcases o8 with _|ra
   ·dsimp only at hx hh
    subst hx
    cases hh
    try simp only[cH,seval,-Int.reduceToNat]
   ·dsimp only at hx hh
    obtain⟨rfl,hE⟩:=hx
    cases hh
    try simp only[bq,bj,bF,dr,dq]
    exact hE
theorem oO:bH Tryz.prog 129 jI:=bH.of (mode := .clean) tok Ct mixed Tryz.func129 (by kernel_rfl) ⟨by kernel_rfl,by kernel_rfl⟩ (fun _=>Nat.le_of_ble_eq_true (by kernel_rfl)) (fun x r h=>Em x.1 x.2 r h)
noncomputable def j9:=eL (dJ (iE (eI .i64))) (fun x:(List Int)=>dL x) (fun r:(List Int) =>.clean (.sl false false r.length (ab (eI .i64) r)))
theorem fp (p0:(List Int)):j9 none [.sl false false p0.length (ab (eI .i64) p0)]=(dL p0).map fun r:(List Int)=>(.clean (.sl false false r.length (ab (eI .i64) r)),none):=aK _ _ _ (p0)
theorem MV (p0:(List Int)) (r:(List Int)) (hh:dL p0=some r):aQ .clean tab aS FU Tryz.f163 none [.sl false false p0.length (ab (eI .i64) p0)]=some (.clean (.sl false false r.length (ab (eI .i64) r)),none):=by
 refine av rfl Tryz.ntmps163 Tryz.results163 ?_
 unfold dL at hh
 try simp only[w,seval,-Int.reduceToNat]
 obtain⟨o4,ho4,hh⟩:=ae hh
 refine aA (fun s t H e=>match s with|s3a=>t 0=.sl false false p0.length (ab (eI .i64) p0)∧t 3=.int .i64 s3a) (fun o x t H e=>match o with|s3ax=>x=.exit 0∧t 0=.sl false false p0.length (ab (eI .i64) p0)∧t 3=.int .i64 s3ax) ho4 ?_ ?_ ?_
 ·refine⟨?_,?_⟩
  all_goals first|rfl|(simp only[w,seval,-Int.reduceToNat]<;>rfl)
 ·rintro s3a t H e Za c hh
  simp only[kv]at hh
  try simp only[w,seval,-Int.reduceToNat,Za]
  refine sp bJ hh (fun _ hh =>?_) (fun _ hh =>?_)
  ·obtain⟨x6,hx6,hh⟩:=ae hh
   have ax6:=bG (eI .i64) hx6
   simp only[bU]at ax6
   try simp only[w,seval,-Int.reduceToNat,Za,ax6]
   refine sp aj hh (fun _ hh =>?_) (fun _ hh =>?_)
   ·cases hh
    try simp only[w,seval,-Int.reduceToNat,Za,ax6]
    refine jB ?_
    refine⟨?_,?_⟩
    all_goals first|rfl|(simp only[w,seval,-Int.reduceToNat,Za,ax6]<;>rfl)
   ·cases hh
    try simp only[w,seval,-Int.reduceToNat,Za,ax6]
    refine kH ?_
    refine⟨rfl,⟨?_,?_⟩⟩
    all_goals first|rfl|(simp only[w,seval,-Int.reduceToNat,Za,ax6]<;>rfl)
  ·cases hh
   try simp only[w,seval,-Int.reduceToNat,Za]
   refine kH ?_
   refine⟨rfl,⟨?_,?_⟩⟩
   all_goals first|rfl|(simp only[w,seval,-Int.reduceToNat,Za]<;>rfl)
 ·rintro x t H e hx
  obtain⟨s3ax,rfl⟩:∃z,z=o4:=⟨_,rfl⟩
  dsimp only at hx hh
  obtain⟨rfl,Zax⟩:=hx
  obtain⟨x8,hx8,hh⟩:=ae hh
  obtain⟨q9a,q9b,q9c,q9d,q9e⟩:=DB (eI .i64) hx8
  simp only[bU]at q9e
  cases hh
  try simp only[w,seval,-Int.reduceToNat,Zax,q9a,q9b,q9c,q9d,q9e]
theorem mD:bH Tryz.prog 163 j9:=bH.of (mode := .clean) tok bN.none mixed Tryz.func163 (by kernel_rfl) ⟨by kernel_rfl,by kernel_rfl⟩ (fun _=>Nat.le_of_ble_eq_true (by kernel_rfl)) (fun x r h=>MV x r h)
noncomputable def qI:=Ws 3 (eI .i64) (UR) (fun (l:(List Int)) (x:Unit)=>dL l)
theorem H6 (pre post:List D) (p0:(List Int)):qI (some (.buf 0 0 1 pre.length p0.length,⟨0,3,pre++(ab (eI .i64) p0++post),false,true,false⟩)) []=(dL p0).map fun r=>(.fresh 3 1 r.length (ab (eI .i64) r),none):=Tn _ _ _ _ pre post p0 ()
theorem Hy (pre post:List D) (p0:(List Int)) (r:(List Int)) (hh:dL p0=some r):aQ (.fresh 3 1) tab aS FU Tryz.f163 (some (.buf 0 0 1 pre.length p0.length,⟨0,3,pre++(ab (eI .i64) p0++post),false,true,false⟩)) []=some (.fresh 3 1 r.length (ab (eI .i64) r),none):=by
 refine oW rfl Tryz.ntmps163 Tryz.results163 ?_
 unfold dL at hh
 try simp only[w,seval,-Int.reduceToNat]
 obtain⟨o4,ho4,hh⟩:=ae hh
 refine aA (fun s t H e=>match s with|s3a=>∃v0a:Nat,t 0=.buf 0 v0a 1 pre.length (p0).length∧t 3=.int .i64 s3a∧H 0=some ⟨v0a,3,pre++(ab (eI .i64) p0++post),false,true,false⟩) (fun o x t H e=>match o with|s3ax=>x=.exit 0∧∃v0ax:Nat,t 0=.buf 0 v0ax 1 pre.length (p0).length∧t 3=.int .i64 s3ax∧H 0=some ⟨v0ax,3,pre++(ab (eI .i64) p0++post),false,true,false⟩) ho4 ?_ ?_ ?_
 ·refine⟨0,?_,?_,?_⟩
  all_goals first|rfl|(simp only[w,seval,-Int.reduceToNat]<;>rfl)
 ·rintro s3a t H e ⟨v0a,Za⟩ c hh
  simp only[kv]at hh
  try simp only[w,seval,-Int.reduceToNat,Za]
  refine sp bJ hh (fun _ hh =>?_) (fun _ hh =>?_)
  ·obtain⟨x6,hx6,hh⟩:=ae hh
   have ax6:=tQ (pre:=pre) (post:=post) (eI .i64) hx6
   simp only[bU]at ax6
   try simp only[w,seval,-Int.reduceToNat,Za,ax6]
   refine sp aj hh (fun _ hh =>?_) (fun _ hh =>?_)
   ·cases hh
    try simp only[w,seval,-Int.reduceToNat,Za,ax6]
    refine jB ?_
    refine⟨v0a,?_,?_,?_⟩
    all_goals first|rfl|(simp only[w,seval,-Int.reduceToNat,Za,ax6]<;>rfl)
   ·cases hh
    try simp only[w,seval,-Int.reduceToNat,Za,ax6]
    refine kH ?_
    refine⟨rfl,⟨v0a,?_,?_,?_⟩⟩
    all_goals first|rfl|(simp only[w,seval,-Int.reduceToNat,Za,ax6]<;>rfl)
  ·cases hh
   try simp only[w,seval,-Int.reduceToNat,Za]
   refine kH ?_
   refine⟨rfl,⟨v0a,?_,?_,?_⟩⟩
   all_goals first|rfl|(simp only[w,seval,-Int.reduceToNat,Za]<;>rfl)
 ·rintro x t H e hx
  obtain⟨s3ax,rfl⟩:∃z,z=o4:=⟨_,rfl⟩
  dsimp only at hx hh
  obtain⟨rfl,⟨v0ax,Zax⟩⟩:=hx
  obtain⟨x8,hx8,hh⟩:=ae hh
  obtain⟨q9a,q9b,q9c,q9d,q9e⟩:=DB (eI .i64) hx8
  simp only[bU]at q9e
  obtain⟨q9f,q9g⟩:=VI (pre:=pre) (post:=post) (eI .i64) hx8
  simp only[bU]at q9f q9g
  cases hh
  try simp only[w,seval,-Int.reduceToNat,Zax,q9a,q9b,q9c,q9f,q9g,q9d]
theorem Eu:bH Tryz.prog 163 qI:=bH.Yb tok bN.none mixed Tryz.func163 (by kernel_rfl) ⟨by kernel_rfl,by kernel_rfl⟩ (fun _=>Nat.le_of_ble_eq_true (by kernel_rfl)) (fun pre post l x r h=>Hy pre post l r h)
noncomputable def sW:=eL (ec (iE (eI .i64)) (dJ (aI .i64))) (fun x:(List Int)×Int=>ku x.1 x.2) (fun r:(List Int)×Int =>.clean (.tup [.sl false false r.1.length (ab (eI .i64) r.1),.int .i64 r.2]))
theorem Ab (p0:(List Int)) (p1:Int):sW none [.sl false false p0.length (ab (eI .i64) p0),.int .i64 p1]=(ku p0 p1).map fun r:(List Int)×Int=>(.clean (.tup [.sl false false r.1.length (ab (eI .i64) r.1),.int .i64 r.2]),none):=aK _ _ _ (p0,p1)
noncomputable def pq:Env:=(Am.ext aS 163 false j9)
theorem Hk:bN Tryz.prog pq:=(bN.none.add mD false)
theorem il:type_of% (ai @w<|ai @fp<|@pq.eq_1):=⟨@w,@fp,@pq.eq_1⟩
theorem Ky (p0:(List Int)) (p1:Int) (r:(List Int)×Int) (hh:ku p0 p1=some r):aQ .clean tab pq FU Tryz.f162 none [.sl false false p0.length (ab (eI .i64) p0),.int .i64 p1]=some (.clean (.tup [.sl false false r.1.length (ab (eI .i64) r.1),.int .i64 r.2]),none):=by
 refine av rfl Tryz.ntmps162 Tryz.results162 ?_
 unfold ku at hh
 obtain⟨x1,hx1,hh⟩:=ae hh
 obtain⟨q2a,q2b,q2c,q2d,q2e⟩:=mk_one (eI .i64) hx1
 simp only[bU]at q2d
 try simp only[il,seval,-Int.reduceToNat,q2a,q2b,q2c,q2d,q2e]
 obtain⟨o13,ho13,hh⟩:=ae hh
 refine aA (fun s t H e=>match s with|(s7a,s8a,l6a)=>∃v6a:Nat,t 0=.sl false false p0.length (ab (eI .i64) p0)∧t 1=.int .i64 p1∧t 6=.buf 6 v6a 1 0 (l6a).length∧t 7=.int .i64 s7a∧t 8=.int .i64 s8a∧H 6=some ⟨v6a,3,ab (eI .i64) l6a,false,true,false⟩) (fun o x t H e=>match o with|(s7ax,l6ax)=>x=.exit 0∧∃v6ax:Nat,t 6=.buf 6 v6ax 1 0 (l6ax).length∧t 7=.int .i64 s7ax∧H 6=some ⟨v6ax,3,ab (eI .i64) l6ax,false,true,false⟩) ho13 ?_ ?_ ?_
 ·refine⟨1,?_,?_,?_,?_,?_,?_⟩
  all_goals first|rfl|(simp only[il,seval,-Int.reduceToNat,q2a,q2b,q2c,q2d,q2e]<;>rfl)
 ·rintro⟨s7a,s8a,l6a⟩ t H e ⟨v6a,Za⟩ c hh
  simp only[ny]at hh
  try simp only[il,seval,-Int.reduceToNat,q2a,q2b,q2c,q2d,q2e,Za]
  refine sp aj hh (fun _ hh =>?_) (fun _ hh =>?_)
  ·obtain⟨x15,hx15,hh⟩:=ae hh
   have q16:=Bb hx15
   obtain⟨x17,hx17,hh⟩:=ae hh
   have ax17:=bG (eI .i64) hx17
   simp only[bU]at ax17
   obtain⟨x18,hx18,hh⟩:=ae hh
   have q19:=rj hx18
   obtain⟨x20,hx20,hh⟩:=ae hh
   have ax20:=bG (eI .i64) hx20
   simp only[bU]at ax20
   have p21:=iz (eI .i64) (x':=x18) (fo:=0) (cs:=[.int .i64 x18]) hx20 rfl (Nat.le_of_ble_eq_true rfl)
   simp only[bU,Nat.add_zero]at p21
   have up21:=p21
   simp only[putCells,List.length_cons,List.length_nil,Nat.zero_add,Nat.reduceAdd]at up21
   obtain⟨x22,hx22,hh⟩:=ae hh
   have q23:=rL hx22
   cases hh
   try simp only[il,seval,-Int.reduceToNat,q2a,q2b,q2c,q2d,q2e,Za,q16,ax17,q19,ax20,p21,up21,q23]
   refine jB ?_
   refine⟨v6a,?_,?_,?_,?_,?_,?_⟩
   all_goals first|rfl|(simp only[il,seval,-Int.reduceToNat,q2a,q2b,q2c,q2d,q2e,Za,q16,ax17,q19,ax20,p21,up21,q23]<;>rfl)
  ·cases hh
   try simp only[il,seval,-Int.reduceToNat,q2a,q2b,q2c,q2d,q2e,Za]
   refine kH ?_
   refine⟨rfl,⟨v6a,?_,?_,?_⟩⟩
   all_goals first|rfl|(simp only[il,seval,-Int.reduceToNat,q2a,q2b,q2c,q2d,q2e,Za]<;>rfl)
 ·rintro x t H e hx
  rcases o13 with⟨s7ax,l6ax⟩
  dsimp only at hx hh
  obtain⟨rfl,⟨v6ax,Zax⟩⟩:=hx
  obtain⟨r24,hr24,hh⟩:=ae hh
  cases hh
  try simp only[il,seval,-Int.reduceToNat,q2a,q2b,q2c,q2d,q2e,Zax,hr24]
theorem HS:bH Tryz.prog 162 sW:=bH.of (mode := .clean) tok Hk mixed Tryz.func162 (by kernel_rfl) ⟨by kernel_rfl,by kernel_rfl⟩ (fun _=>Nat.le_of_ble_eq_true (by kernel_rfl)) (fun x r h=>Ky x.1 x.2 r h)
noncomputable def uA:=eL (ec (iE (eI .i64)) (dJ (iE (eI .i64)))) (fun x:(List Int)×(List Int)=>nx x.1 x.2) (fun r:(List Int) =>.fresh 3 1 r.length (ab (eI .i64) r))
theorem od (p0:(List Int)) (p1:(List Int)):uA none [.sl false false p0.length (ab (eI .i64) p0),.sl false false p1.length (ab (eI .i64) p1)]=(nx p0 p1).map fun r:(List Int)=>(.fresh 3 1 r.length (ab (eI .i64) r),none):=aK _ _ _ (p0,p1)
noncomputable def uW:Env:=(Am.ext aS 163 true qI)
theorem ME:bN Tryz.prog uW:=(bN.none.add Eu true)
theorem eU:type_of% (ai @w<|@uW.eq_1):=⟨@w,@uW.eq_1⟩
theorem QK (p0:(List Int)) (p1:(List Int)) (r:(List Int)) (hh:nx p0 p1=some r):aQ (.fresh 3 1) tab uW FU Tryz.f164 none [.sl false false p0.length (ab (eI .i64) p0),.sl false false p1.length (ab (eI .i64) p1)]=some (.fresh 3 1 r.length (ab (eI .i64) r),none):=by
 refine av rfl Tryz.ntmps164 Tryz.results164 ?_
 unfold nx at hh
 obtain⟨x1,hx1,hh⟩:=ae hh
 obtain⟨q2a,q2b,q2c,q2d,q2e⟩:=mk_one (eI .i64) hx1
 simp only[bU]at q2d
 try simp only[eU,seval,-Int.reduceToNat,q2a,q2b,q2c,q2d,q2e]
 obtain⟨o20,ho20,hh⟩:=ae hh
 refine aA (fun s t H e=>match s with|(s20a,l5a)=>∃v5a:Nat,t 1=.sl false false p1.length (ab (eI .i64) p1)∧t 5=.buf 5 v5a 1 0 (l5a).length∧t 18=.sl false false p0.length (ab (eI .i64) p0)∧t 19=.int .i64 (p0.length:Int)∧t 20=.int .i64 s20a∧H 5=some ⟨v5a,3,ab (eI .i64) l5a,false,true,false⟩) (fun o x t H e=>match o with|l5ax=>x=.exit 0∧∃v5ax:Nat,t 5=.buf 5 v5ax 1 0 (l5ax).length∧H 5=some ⟨v5ax,3,ab (eI .i64) l5ax,false,true,false⟩) ho20 ?_ ?_ ?_
 ·refine⟨1,?_,?_,?_,?_,?_,?_⟩
  all_goals first|rfl|(simp only[eU,seval,-Int.reduceToNat,q2a,q2b,q2c,q2d,q2e]<;>rfl)
 ·rintro⟨s20a,l5a⟩ t H e ⟨v5a,Za⟩ c hh
  simp only[re]at hh
  try simp only[eU,seval,-Int.reduceToNat,q2a,q2b,q2c,q2d,q2e,Za]
  refine sp aj hh (fun _ hh =>?_) (fun _ hh =>?_)
  ·obtain⟨x22,hx22,hh⟩:=ae hh
   have ax22:=bG (eI .i64) hx22
   simp only[bU]at ax22
   try simp only[eU,seval,-Int.reduceToNat,q2a,q2b,q2c,q2d,q2e,Za,ax22]
   obtain⟨o29,ho29,hh⟩:=ae hh
   refine aA (fun s t H e=>match s with|(s8c,s27c,l5c)=>∃v5c:Nat,t 1=.sl false false p1.length (ab (eI .i64) p1)∧t 5=.buf 5 v5c 1 0 (l5c).length∧t 6=.int .i64 s20a∧t 7=.int .i64 x22∧t 8=.int .i64 s8c∧t 18=.sl false false p0.length (ab (eI .i64) p0)∧t 19=.int .i64 (p0.length:Int)∧t 20=.int .i64 s20a∧t 25=.sl false false p1.length (ab (eI .i64) p1)∧t 26=.int .i64 (p1.length:Int)∧t 27=.int .i64 s27c∧H 5=some ⟨v5c,3,ab (eI .i64) l5c,false,true,false⟩) (fun o x t H e=>match o with|(s8cx,l5cx)=>x=.exit 2∧∃v5cx:Nat,t 1=.sl false false p1.length (ab (eI .i64) p1)∧t 5=.buf 5 v5cx 1 0 (l5cx).length∧t 6=.int .i64 s20a∧t 8=.int .i64 s8cx∧t 18=.sl false false p0.length (ab (eI .i64) p0)∧t 19=.int .i64 (p0.length:Int)∧t 20=.int .i64 s20a∧H 5=some ⟨v5cx,3,ab (eI .i64) l5cx,false,true,false⟩) ho29 ?_ ?_ ?_
   ·refine⟨v5a,?_,?_,?_,?_,?_,?_,?_,?_,?_,?_,?_,?_⟩
    all_goals first|rfl|(simp only[eU,seval,-Int.reduceToNat,q2a,q2b,q2c,q2d,q2e,Za,ax22]<;>rfl)
   ·rintro⟨s8c,s27c,l5c⟩ t H e ⟨v5c,Zc⟩ c hh
    simp only[rf]at hh
    try simp only[eU,seval,-Int.reduceToNat,q2a,q2b,q2c,q2d,q2e,ax22,Zc]
    refine sp aj hh (fun _ hh =>?_) (fun _ hh =>?_)
    ·obtain⟨x31,hx31,hh⟩:=ae hh
     have ax31:=bG (eI .i64) hx31
     simp only[bU]at ax31
     obtain⟨x32,hx32,hh⟩:=ae hh
     have ax32:=bG (eI .i64) hx32
     simp only[bU]at ax32
     obtain⟨x33,hx33,hh⟩:=ae hh
     have q34:=n9 hx33
     have ax32:=bG (eI .i64) hx32
     simp only[bU]at ax32
     have p35:=iz (eI .i64) (x':=jK .and .i64 (IntKind.i64.wrap ((IntKind.i64.wrap (x32+(IntKind.i64.wrap (x22*x31))))+s8c)) 1048575) (fo:=0) (cs:=[.int .i64 (jK .and .i64 (IntKind.i64.wrap ((IntKind.i64.wrap (x32+(IntKind.i64.wrap (x22*x31))))+s8c)) 1048575)]) hx32 rfl (Nat.le_of_ble_eq_true rfl)
     simp only[bU,Nat.add_zero]at p35
     have up35:=p35
     simp only[putCells,List.length_cons,List.length_nil,Nat.zero_add,Nat.reduceAdd]at up35
     cases hh
     try simp only[eU,seval,-Int.reduceToNat,q2a,q2b,q2c,q2d,q2e,ax22,Zc,ax31,ax32,q34,ax32,p35,up35]
     refine jB ?_
     refine⟨v5c,?_,?_,?_,?_,?_,?_,?_,?_,?_,?_,?_,?_⟩
     all_goals first|rfl|(simp only[eU,seval,-Int.reduceToNat,q2a,q2b,q2c,q2d,q2e,ax22,Zc,ax31,ax32,q34,ax32,p35,up35]<;>rfl)
    ·cases hh
     try simp only[eU,seval,-Int.reduceToNat,q2a,q2b,q2c,q2d,q2e,ax22,Zc]
     refine kH ?_
     refine⟨rfl,⟨v5c,?_,?_,?_,?_,?_,?_,?_,?_⟩⟩
     all_goals first|rfl|(simp only[eU,seval,-Int.reduceToNat,q2a,q2b,q2c,q2d,q2e,ax22,Zc]<;>rfl)
   ·rintro x t H e hx
    rcases o29 with⟨s8cx,l5cx⟩
    dsimp only at hx hh
    obtain⟨rfl,⟨v5cx,Zcx⟩⟩:=hx
    obtain⟨x36,hx36,hh⟩:=ae hh
    have ax36:=bG (eI .i64) hx36
    simp only[bU]at ax36
    have ax36:=bG (eI .i64) hx36
    simp only[bU]at ax36
    have p37:=iz (eI .i64) (x':=IntKind.i64.wrap (x36+s8cx)) (fo:=0) (cs:=[.int .i64 (IntKind.i64.wrap (x36+s8cx))]) hx36 rfl (Nat.le_of_ble_eq_true rfl)
    simp only[bU,Nat.add_zero]at p37
    have up37:=p37
    simp only[putCells,List.length_cons,List.length_nil,Nat.zero_add,Nat.reduceAdd]at up37
    cases hh
    try simp only[eU,seval,-Int.reduceToNat,q2a,q2b,q2c,q2d,q2e,ax22,Zcx,ax36,ax36,p37,up37]
    refine jB ?_
    refine⟨v5cx,?_,?_,?_,?_,?_,?_⟩
    all_goals first|rfl|(simp only[eU,seval,-Int.reduceToNat,q2a,q2b,q2c,q2d,q2e,ax22,Zcx,ax36,ax36,p37,up37]<;>rfl)
  ·cases hh
   try simp only[eU,seval,-Int.reduceToNat,q2a,q2b,q2c,q2d,q2e,Za]
   refine kH ?_
   refine⟨rfl,⟨v5a,?_,?_⟩⟩
   all_goals first|rfl|(simp only[eU,seval,-Int.reduceToNat,q2a,q2b,q2c,q2d,q2e,Za]<;>rfl)
 ·rintro x t H e hx
  obtain⟨l5ax,rfl⟩:∃z,z=o20:=⟨_,rfl⟩
  dsimp only at hx hh
  obtain⟨rfl,⟨v5ax,Zax⟩⟩:=hx
  have i38:=H6 [] [] l5ax
  try simp only[List.nil_append,List.append_nil,List.length_nil,aP,List.length_set,bU]at i38
  obtain⟨r39,hr39,hh⟩:=ae hh
  cases hh
  try simp only[eU,seval,-Int.reduceToNat,q2a,q2b,q2c,q2d,q2e,Zax,i38,hr39]
theorem C1:bH Tryz.prog 164 uA:=bH.of (mode:=(.fresh 3 1)) tok ME mixed Tryz.func164 (by kernel_rfl) ⟨by kernel_rfl,by kernel_rfl⟩ (fun _=>Nat.le_of_ble_eq_true (by kernel_rfl)) (fun x r h=>QK x.1 x.2 r h)
noncomputable def oo:=Ry 3 (eI .i64) (ec (iE (eI .i64)) (dJ (aI .i64))) (fun (l:(List Int)) (x:(List Int)×Int)=>fv l x.1 x.2) (fun r:Int =>.clean (.int .i64 r))
theorem C9 (pre post:List D) (p0:(List Int)) (p1:(List Int)) (p2:Int):oo (some (.buf 0 0 1 pre.length p0.length,⟨0,3,pre++(ab (eI .i64) p0++post),false,true,false⟩)) [.sl false false p1.length (ab (eI .i64) p1),.int .i64 p2]=(fv p0 p1 p2).map fun r=>(.clean (.int .i64 r.2),some ⟨0,3,pre++(ab (eI .i64) r.1++post),false,true,false⟩):=CS _ _ _ _ _ pre post p0 (p1,p2)
end Go.Proofs.YtpkahnkoecbndaaGreatDoor.Am
