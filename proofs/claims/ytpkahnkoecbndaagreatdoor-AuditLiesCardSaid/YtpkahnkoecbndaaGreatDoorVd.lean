/- Part of a proof, made small by a program (wip/mini.py). -/
import Derived.Test.YtpkahnkoecbndaaGreatDoorVc
namespace Go.Proofs.YtpkahnkoecbndaaGreatDoor.Am
open Go.RowKit Go.Proofs.YtpkahnkoecbndaaGreatDoor.P Go.Shelf
set_option linter.unusedSimpArgs false
set_option linter.unusedVariables false
set_option maxHeartbeats 4000000 in
set_option maxRecDepth 100000 in
theorem Xl (b o c:Nat) (l:List Int) (w:World) (hb:b<w.heap.size) (hc:∀j,j<l.length→w.cell? ⟨b,o+j,none⟩=some (.int .i64 (l.getD j 0))) (hall:∀x∈l,-9223372036854775808≤x∧x≤9223372036854775807) (hreach:l.length*8≤140737488351232) (hsize:(mF l).length≤140737488355328)
  (ht:∀b,rq=some b→∃ty fr,w.heap[b]? = some (.cells mD ty fr)) (htl:∀b,rq=some b→b<w.heap.size) :
  Calls Tryz.prog 93 #[.slice (some ⟨b,o,none⟩) l.length c,.func (.func 94) #[] #[]] w fun e w'=>e=.returned (.string ⟨(mF l).toArray⟩)∧Below w.heap.size w w':=by
 have htk:∀w',Below w.heap.size w w'→∀b,rq=some b→∃ty fr,w'.heap[b]? = some (.cells mD ty fr):=fun w' hbw b hb=>by
  obtain⟨ty,fr,h⟩:=ht b hb
  exact⟨ty,fr,(hbw.block b (htl b hb)).trans h⟩
 have hn0 : -9223372036854775808≤(l.length:Int):=by omega
 have hn1:(l.length:Int)≤9223372036854775807:=by omega
 have hB0:Below w.heap.size w (w.alloc (.cells #[.pointer none,.slice none 0 0] 150)):=(Below.refl _ w).alloc (Nat.le_refl _) _
 have hsz:=vM l.length hn0 hn1
 have e1:B9 l.length++⟨#[91]⟩=⟨(Lib.itoa l.length++[91]).toArray⟩:=AT (Lib.itoa l.length) [91]
 have hnl:(mF l).length=(Lib.itoa l.length).length+1+(iD l).length+1:=by simp[mF];omega
 go_enter Tryz.func93,Tryz.ntmps93
 have hI0:Lib.IsBuilder 150 5 w.heap.size w.heap.size (Lib.byteCells []) (w.alloc (.cells #[.pointer none,.slice none 0 0] 150)):=Ox w
 go_wp2_with (first
  | (go_at_call 121;refine (Sf l.length _ hn0 hn1 (htk _ hB0)).mono ?_;rintro e w1 ⟨rfl,hb1⟩;have hI1:=Fp hI0 hb1;have hz1:w.heap.size≤w1.heap.size:=Nat.le_trans hB0.size hb1.size)
  | (go_at_call 120;refine (Nx w.heap.size w.heap.size [] (Lib.itoa l.length++[91]) _ hI1 (by simp only[List.length_nil,List.length_append,List.length_cons];omega) hz1).mono ?_;rintro e w2 ⟨v2,rfl,hB2,hb2⟩))
 have hb20:Below w.heap.size w w2:=(hB0.trans (hb1.mono hB0.size)).trans hb2
 clear hI1 hI0 hB0 hb1 hb2
 go_loopw [15] (fun i wr=>∃k:Nat,k≤l.length∧i=.int .i64 k∧Lib.BuilderAt 150 5 w.heap.size w.heap.size (.pointer (some ⟨w.heap.size,0,none⟩)) (Lib.byteCells ((Lib.itoa l.length++[91])++iD (l.take k))) wr∧Below w.heap.size w wr)
  (fun i _=>l.length-(intOf i).toNat)
 case atStart=>exact⟨0,Nat.zero_le _,rfl,by simpa [iD] using hB2,hb20⟩
 case round =>
  obtain⟨k,hk,rfl,hBk,hbk⟩:=hrel
  have hcx:k<l.length→wr.cell? ⟨b,o+k,none⟩=some (.int .i64 (l.getD k 0)):=fun h=>(hbk.cell (p:=⟨b,o+k,none⟩) hb).trans (hc k h)
  by_cases hlt:k<l.length
  ·have hcx':=hcx hlt
   have hx:=hall (l.getD k 0) (by rw[List.getD_eq_getElem?_getD,List.getElem?_eq_getElem hlt];exact List.getElem_mem hlt)
   have hnk:=UH l (k+1)
   rw[Gf l hlt,List.length_append]at hnk
   have hnn:=Gf l hlt
   generalize l.getD k 0=x at *
   go_wp2_with (first
    | (go_at_call 94;refine (Vc x _ hx.1 hx.2 (htk _ hbk)).mono ?_;rintro e w3 ⟨rfl,hb3⟩;have hI3:=po hBk hb3;have hz3:w.heap.size≤w3.heap.size:=Nat.le_trans hbk.size hb3.size)
    | (go_at_call 120;refine (Nx w.heap.size w.heap.size ((Lib.itoa l.length++[91])++iD (l.take k)) (Lib.itoa x++[59]) _ (.inr hI3) (by simp only[List.length_append,List.length_cons,List.length_nil]at *;omega) hz3).mono ?_;rintro e w4 ⟨v4,rfl,hB4,hb4⟩))
   go_roundw
   case rel=>exact⟨k+1,by omega,by go_num,by rw[hnn,← List.append_assoc];exact hB4,(hbk.trans (hb3.mono hbk.size)).trans hb4⟩
   case measure=>simp[intOf];omega
  ·obtain rfl:k=l.length:=by omega
   have e3:(⟨((Lib.itoa l.length++[91])++iD l).toArray⟩:ByteArray)++⟨#[93]⟩=⟨(mF l).toArray⟩:=by
    rw[show (⟨#[93]⟩:ByteArray)=⟨([93]:List UInt8).toArray⟩ from rfl,AT]
    simp[mF]
   have hss:(⟨((Lib.itoa l.length++[91])++iD l).toArray⟩:ByteArray).size+1≤9223372036854775807:=by
    show ((Lib.itoa l.length++[91])++iD l).toArray.size+1≤_
    rw[List.size_toArray]
    simp only[List.length_append,List.length_cons,List.length_nil]
    omega
   rw[List.take_length]at hBk
   have hstr:=O9 w.heap.size w.heap.size _ wr (.inr hBk) hbk.size
   generalize (⟨((Lib.itoa l.length++[91])++iD l).toArray⟩:ByteArray)=S at *
   go_wp2_with (go_at_call 122;refine hstr.mono ?_;rintro e w5 ⟨rfl,hb5⟩)
   go_ret
   first|exact⟨rfl,hbk.trans hb5⟩|exact⟨by rw[← e3],hbk.trans hb5⟩
set_option maxHeartbeats 1000000 in
set_option maxRecDepth 100000 in
theorem Xm (A:Option Addr) (c:Nat) (w:World) (ht:∀b,rq=some b→∃ty fr,w.heap[b]? = some (.cells mD ty fr)) (htl:∀b,rq=some b→b<w.heap.size) :
  Calls Tryz.prog 93 #[.slice A 0 c,.func (.func 94) #[] #[]] w fun e w'=>e=.returned (.string ⟨(mF []).toArray⟩)∧Below w.heap.size w w':=by
 have htk:∀w',Below w.heap.size w w'→∀b,rq=some b→∃ty fr,w'.heap[b]? = some (.cells mD ty fr):=fun w' hbw b hb=>by
  obtain⟨ty,fr,h⟩:=ht b hb
  exact⟨ty,fr,(hbw.block b (htl b hb)).trans h⟩
 have hB0:Below w.heap.size w (w.alloc (.cells #[.pointer none,.slice none 0 0] 150)):=(Below.refl _ w).alloc (Nat.le_refl _) _
 have hsz:=vM 0 (by decide) (by decide)
 have hll:=Lib.itoa_length_le 0 (by decide) (by decide)
 have e1:B9 0++⟨#[91]⟩=⟨(Lib.itoa 0++[91]).toArray⟩:=AT (Lib.itoa 0) [91]
 go_enter Tryz.func93,Tryz.ntmps93
 have hI0:Lib.IsBuilder 150 5 w.heap.size w.heap.size (Lib.byteCells []) (w.alloc (.cells #[.pointer none,.slice none 0 0] 150)):=Ox w
 go_wp2_with (first
  | (go_at_call 121;refine (Sf 0 _ (by decide) (by decide) (htk _ hB0)).mono ?_;rintro e w1 ⟨rfl,hb1⟩;have hI1:=Fp hI0 hb1;have hz1:w.heap.size≤w1.heap.size:=Nat.le_trans hB0.size hb1.size)
  | (go_at_call 120;refine (Nx w.heap.size w.heap.size [] (Lib.itoa 0++[91]) _ hI1 (by simp only[List.length_nil,List.length_append,List.length_cons];omega) hz1).mono ?_;rintro e w2 ⟨v2,rfl,hB2,hb2⟩))
 have hb20:Below w.heap.size w w2:=(hB0.trans (hb1.mono hB0.size)).trans hb2
 clear hI1 hI0 hB0 hb1 hb2
 go_loopw [15] (fun i wr=>i=.int .i64 0∧wr=w2) (fun i _=>0)
 case atStart=>exact⟨rfl,rfl⟩
 case round =>
  obtain⟨rfl,rfl⟩:=hrel
  have e3:(⟨(Lib.itoa 0++[91]).toArray⟩:ByteArray)++⟨#[93]⟩=⟨(mF []).toArray⟩:=by
   rw[show (⟨#[93]⟩:ByteArray)=⟨([93]:List UInt8).toArray⟩ from rfl,AT]
   simp[mF,iD]
  have hss:(⟨(Lib.itoa 0++[91]).toArray⟩:ByteArray).size+1≤9223372036854775807:=by
   show (Lib.itoa 0++[91]).toArray.size+1≤_
   rw[List.size_toArray]
   simp only[List.length_append,List.length_cons,List.length_nil]
   omega
  have hstr:=O9 w.heap.size w.heap.size _ wr (.inr hB2) hb20.size
  rw[List.nil_append]at hstr
  generalize (⟨(Lib.itoa 0++[91]).toArray⟩:ByteArray)=S at *
  go_wp2_with (go_at_call 122;refine hstr.mono ?_;rintro e w5 ⟨rfl,hb5⟩)
  go_ret
  first|exact⟨rfl,hb20.trans hb5⟩|exact⟨by rw[← e3],hb20.trans hb5⟩
theorem UI:bN Tryz.prog 53 (eB (dK (iG (eI .i64))) OK (fun r =>.clean (.str r))) :=
 U3 Tryz.func53 ⟨by kernel_rfl,by kernel_rfl⟩ fun l r hr w M u hu ht=>by
  unfold OK at hr
  split at hr
  rotate_left
  ·cases hr
  rename_i hc
  cases hr
  have hu':RP w M (.sl false false l.length (ab (eI .i64) l)) u:=hu
  obtain⟨A,c,rfl,-,-,-,k4⟩:=Gr hu'
  have hcall:Calls Tryz.prog 93 #[.slice A l.length c,.func (.func 94) #[] #[]] w fun e w'=>e=.returned (.string ⟨(mF l).toArray⟩)∧Below w.heap.size w w':=by
   by_cases hl:l=[]
   ·subst hl
    exact Xm A c w (fun b hb=>(ht b hb).is) (fun b hb=>(ht b hb).lt)
   ·obtain⟨b,o,rfl,hb,hM,hcc⟩:=k4 hl
    exact Xl b o c l w hb hcc hc.1 hc.2.1 hc.2.2 (fun b hb=>(ht b hb).is) (fun b hb=>(ht b hb).lt)
  generalize (⟨(mF l).toArray⟩:ByteArray)=S at *
  go_enter Tryz.func53,Tryz.ntmps53
  go_wp2_with (go_at_call 93;refine hcall.mono ?_;rintro e w1 ⟨rfl,hb1⟩)
  go_ret
  exact⟨rfl,hb1⟩
end Go.Proofs.YtpkahnkoecbndaaGreatDoor.Am
namespace Go.Proofs.YtpkahnkoecbndaaGreatDoor.Am
open Go.RowKit Go.Proofs.YtpkahnkoecbndaaGreatDoor.P
set_option linter.unusedSimpArgs false
set_option linter.unusedVariables false
set_option linter.unusedSectionVars false
noncomputable def pJ {α β:Type} (E:jJ α) (A:mr β) (F:List α→β→Option α):List D→List D→Option (List D):=fun ds us =>
 open Classical in if h:∃p:List α×β,ab E p.1=ds∧A.ds p.2=us then (F (Classical.choose h).1 (Classical.choose h).2).map E.cells else none
theorem R8 {α β:Type} (E:jJ α) (A:mr β) (F:List α→β→Option α) (l:List α) (b:β):pJ E A F (ab E l) (A.ds b)=(F l b).map E.cells:=by
 have h:∃p:List α×β,ab E p.1=ab E l∧A.ds p.2=A.ds b:=⟨(l,b),rfl,rfl⟩
 simp only[pJ]
 rw[dif_pos h,sU E _ _ (Classical.choose_spec h).1,A.inj _ _ (Classical.choose_spec h).2]
theorem qM {α β:Type} {E:jJ α} {A:mr β} {F:List α→β→Option α} {ds us cs:List D} (h:pJ E A F ds us=some cs):∃l b x,ds=ab E l∧us=A.ds b∧F l b=some x∧cs=E.cells x:=by
 unfold pJ at h
 split at h
 ·rename_i he
  obtain⟨h1,h2⟩:=Classical.choose_spec he
  rw[Option.map_eq_some_iff]at h
  obtain⟨x,h3,h4⟩:=h
  exact⟨_,_,x,h1.symm,h2.symm,h3,h4.symm⟩
 ·cases h
theorem Jy {α β:Type} (E:jJ α) {A:mr β} {F:List α→β→Option α} {B:Nat} {l z:List α} {b:β} (h:((F l b).bind fun x=>iH B l [x])=some z) :
  ∃cs,pJ E A F (ab E l) (A.ds b)=some cs∧ab E l++cs=ab E z∧l.length+1=z.length∧z.length*B≤140737488355328:=by
 obtain⟨x,h1,h2⟩:=ae h
 obtain⟨q1,q2,q3,q4⟩:=fD E h2
 exact⟨E.cells x,by rw[R8,h1];rfl,q2,q1,q4⟩
section
variable {P:Program} {w:World}
theorem Gu (L:Nat→Prop) (w:World) (o:Obj):cr L w (w.alloc o):=⟨rfl,rfl,rfl,by simp,fun k hk _=>heap_alloc_old w o hk⟩
theorem Dj {L:Nat→Prop} {g:Nat} (hg:L g) (cs:Array Value):cr L w (w.setRow g cs):=⟨rfl,rfl,rfl,by simp[World.setRow],fun k _ hk=>by
 simp only[World.setRow,Array.getElem?_modify]
 rw[if_neg (fun h:g=k=>hk (h ▸ hg))]⟩
theorem D5 (t ty el:Nat) {φ:Ty} (hd:P.underlying t=some (.slice el)) (hφ:dC P el φ) (hpos:0<φ.size) (hz0:φ.zero.length=φ.size) (hby:0<φ.bytes) {go:Option (Nat×Nat)} {u:Value} {n:Nat} {cs:List Value} (hs:xR w el φ.size go u n cs) (hcs:cs.length=n*φ.size)
  (b:Addr) (c:Nat) (us:List Value) (hul:us.length=φ.size) (hus:∀j u,us[j]? = some u→w.cell? (b.add j)=some u) (h1:∀u∈us,u.oneCell'=true) (hb:(n+1)*φ.bytes≤140737488355328) :
  ∃(g:Nat×Nat) (k:Nat) (arr:Array Value) (w':World),(Builtin.append_ #[t,t] ty #[u,.slice (some b) 1 c]).run P w=.ok (.slice (some ⟨g.1,g.2,none⟩) (n+1) k) w'∧cr (mq go) w w'∧(w.heap.size≤g.1∨mq go g.1)∧w'.heap[g.1]? = some (.cells arr el (0,0)) ∧
   n+1≤k∧k≤maxLen∧k*φ.size+g.2=arr.size∧∀(j:Nat) x,(cs++us)[j]? = some x→arr[g.2+j]? = some x:=by
 have h63:n+1≤maxLen:=by
  have:=Nat.le_mul_of_pos_right (n+1) hby
  unfold maxLen
  omega
 have hul1:us.length=1*φ.size:=by omega
 have new:∀(A:Option Addr) (cap:Nat),u=.slice A n cap→cap<n+1→(A=none→n=0∧cap=0)→(∀ad,A=some ad→∀j u,cs[j]? = some u→w.cell? (ad.add j)=some u) →
   ∃(g:Nat×Nat) (k:Nat) (arr:Array Value) (w':World),(Builtin.append_ #[t,t] ty #[u,.slice (some b) 1 c]).run P w=.ok (.slice (some ⟨g.1,g.2,none⟩) (n+1) k) w'∧cr (mq go) w w'∧(w.heap.size≤g.1∨mq go g.1)∧w'.heap[g.1]? = some (.cells arr el (0,0)) ∧
   n+1≤k∧k≤maxLen∧k*φ.size+g.2=arr.size∧∀(j:Nat) x,(cs++us)[j]? = some x→arr[g.2+j]? = some x:=by
  intro A cap hu hcap hA hxs
  subst hu
  obtain⟨k,vs,r1,r2,r3,r4,r5⟩:=tH (P:=P) (w:=w) t ty el hd hφ hpos hz0 A n cap cs hcs hxs hA b 1 c us hul1 hus (by omega) h63 hb
  refine⟨(w.heap.size,0),k,vs,_,r1,⟨rfl,rfl,rfl,by simp,fun k hk _=>heap_alloc_old w.drew _ hk⟩,.inl (Nat.le_refl _),heap_alloc_new w.drew _,r2,r3,by omega,fun j x hj =>?_⟩
  rw[← r5]at hj
  rw[List.getElem?_take]at hj
  split at hj
  ·simpa using hj
  ·cases hj
 rcases hs with⟨g,c0,arr,hgo,hu,hh,hsz,hn,hmx,hcell⟩|⟨hgo,rfl,rfl,A,hu⟩
 ·by_cases hroom:n+1≤c0
  ·subst hu
   have hfit:g.2+n*φ.size+us.length≤arr.size:=by
    have:=Nat.mul_le_mul_right φ.size hroom
    rw[Nat.add_mul]at this
    omega
   have hr:=vo (P:=P) (w:=w) t ty el hd hφ g.1 g.2 n c0 arr hh b 1 c us hul1 hus h1 hroom hfit
   refine⟨g,c0,_,_,hr,Dj ⟨g,hgo,rfl⟩ _,.inr ⟨g,hgo,rfl⟩,setRow_heap w g.1 arr _ el (0,0) hh,hroom,hmx,?_,fun j x hj =>?_⟩
   ·simp only[List.size_toArray,List.length_append,List.length_take,List.length_drop,Array.length_toList]
    omega
   ·have hjl:=(List.getElem?_eq_some_iff.1 hj).1
    rw[List.length_append]at hjl
    simp only[List.getElem?_toArray]
    rw[List.append_assoc]
    by_cases hjn:j<cs.length
    ·rw[List.getElem?_append_left hjn]at hj
     have:=hcell j x hj
     rw[List.getElem?_append_left (by simp;omega),List.getElem?_take,if_pos (by omega)]
     simpa using this
    ·rw[List.getElem?_append_right (by omega)]at hj
     rw[List.getElem?_append_right (by simp;omega),List.getElem?_append_left (by simp;omega),← hj]
     congr 1
     simp
     omega
  ·exact new (some ⟨g.1,g.2,none⟩) c0 hu (by omega) (fun h=>by cases h) (fun ad had j u hj=>by
    cases had
    have:=hcell j u hj
    have hlt:=(Array.getElem?_eq_some_iff.1 this).1
    rw[lp,bG hh hlt,Array.getD_eq_getD_getElem?,this]
    rfl)
 ·exact new A 0 hu (by omega) (fun _=>⟨rfl,rfl⟩) (fun ad _ j u hj=>by simp at hj)
theorem CY {ops:Array Oper} {o:Oper} {a:Act} {K:Act→World→Prop} {Q:Exit→Act→World→Prop} {X:Prop} (hgd:o.guard=none) (s x:Operand) (t el:Nat)
  (ho:o.op=.call { callee := .builtin .append,args:=#[s,x],argTypes:=#[t,t] }) {φ:Ty} (hd:P.underlying t=some (.slice el)) (hφ:dC P el φ) (hpos:0<φ.size) (hz0:φ.zero.length=φ.size) (hby:0<φ.bytes)
  {go:Option (Nat×Nat)} {u:Value} {n:Nat} {cs:List Value} (hsv:a.eval s=u) (hs:xR w el φ.size go u n cs) (hcs:cs.length=n*φ.size)
  (b:Addr) (c:Nat) (us:List Value) (hx:a.eval x=.slice (some b) 1 c) (hul:us.length=φ.size) (hus:∀j u,us[j]? = some u→w.cell? (b.add j)=some u) (h1:∀u∈us,u.oneCell'=true) (hb:(n+1)*φ.bytes≤140737488355328)
  (h:∀(g:Nat×Nat) (k:Nat) (arr:Array Value) (w':World),cr (mq go) w w'→(w.heap.size≤g.1∨mq go g.1)→w'.heap[g.1]? = some (.cells arr el (0,0)) →
   n+1≤k→k≤maxLen→k*φ.size+g.2=arr.size→(∀(j:Nat) x,(cs++us)[j]? = some x→arr[g.2+j]? = some x)→K (a.put o.dst (.slice (some ⟨g.1,g.2,none⟩) (n+1) k)) w') :
  if Region.wanted o (yielded ops a.tmps)=true then Oper.wp P o a w K Q else X:=by
 have hw:Region.wanted o (yielded ops a.tmps)=true:=by simp[Region.wanted,hgd]
 rw[if_pos hw]
 obtain⟨g,k,arr,w',hr,q1,q2,q3,q4,q5,q6,q7⟩:=D5 (P:=P) t o.type el hd hφ hpos hz0 hby hs hcs b c us hul hus h1 hb
 unfold Oper.wp execOp
 simp only[ho,resolve,invoke,builtin,Sem.run_bind,Sem.run_pure,Result.andThen_ok,List.map_toArray,List.map_cons,List.map_nil,hsv,hx,hr]
 exact h g k arr w' q1 q2 q3 q4 q5 q6 q7
theorem xR.later {ty k:Nat} {go:Option (Nat×Nat)} {u:Value} {n:Nat} {cs:List Value} {w':World} (hs:xR w ty k go u n cs) (hb:cr (fun _=>False) w w'):xR w' ty k go u n cs:=by
 rcases hs with⟨g,c0,arr,hgo,hu,hh,q⟩|q
 ·exact .inl ⟨g,c0,arr,hgo,hu,(hb.block g.1 (Array.getElem?_eq_some_iff.1 hh).1 (fun h=>h)).trans hh,q⟩
 ·exact .inr q
end
def kq (gy:Nat×Nat) (ya:Array Value) (ty:Nat) (go:Option (Nat×Nat)) (n el size:Nat) (cs:List Value) (w:World) (e:Ending) (w':World):Prop :=
 e=.returned (.int .i64 (n:Int))∧cr (fun b=>b=gy.1∨mq go b) w w' ∧
  ∃(g:Nat×Nat) (c:Nat) (arr:Array Value),(w.heap.size≤g.1∨mq go g.1)∧w'.heap[gy.1]? = some (.cells (ya.setIfInBounds gy.2 (.slice (some ⟨g.1,g.2,none⟩) (n+1) c)) ty (0,0))∧w'.heap[g.1]? = some (.cells arr el (0,0)) ∧
   n+1≤c∧c≤maxLen∧c*size+g.2=arr.size∧∀(j:Nat) x,cs[j]? = some x→arr[g.2+j]? = some x
theorem AU (w:World) (o o':Obj):cr (fun _=>False) w ((w.alloc o).alloc o').drew:=⟨rfl,rfl,rfl,by simp;omega,fun k hk _=>(heap_alloc_old (w.alloc o) o' (by simp;omega)).trans (heap_alloc_old w o hk)⟩
theorem kq.base {gy:Nat×Nat} {ya:Array Value} {ty:Nat} {go:Option (Nat×Nat)} {n el size:Nat} {cs:List Value} {w wA w':World} {e:Ending} (hA:cr (fun _=>False) w wA) (h:kq gy ya ty go n el size cs wA e w'):kq gy ya ty go n el size cs w e w':=by
 obtain⟨h1,h2,g,c,arr,h3,h4⟩:=h
 exact⟨h1,cr.trans (L:=fun b=>b=gy.1∨mq go b) ⟨hA.os,hA.tape,hA.output,hA.size,fun k hk _=>hA.block k hk (fun h=>h)⟩ h2 (fun x hx _=>hx),g,c,arr,h3.imp (fun h=>Nat.le_trans hA.size h) (fun h=>h),h4⟩
theorem vp (w:World) (a:Addr) (u:Value) (k:Nat) (h:k≠a.block):(w.setCell a u).heap[k]? = w.heap[k]?:=by
 simp only[World.setCell,Array.getElem?_modify]
 rw[if_neg (Ne.symm h)]
theorem PX {w wA w2:World} {gy g:Nat×Nat} {ya arr:Array Value} {ty el size n k:Nat} {go:Option (Nat×Nat)} {cs:List Value} (hy:w.heap[gy.1]? = some (.cells ya ty (0,0))) (hul:gy.2<ya.size) (hne:∀g,go=some g→g.1≠gy.1) (hA:cr (fun _=>False) w wA) (q1:cr (mq go) wA w2)
  (q2:wA.heap.size≤g.1∨mq go g.1) (q3:w2.heap[g.1]? = some (.cells arr el (0,0))) (q4:n+1≤k) (q5:k≤maxLen) (q6:k*size+g.2=arr.size) (q7:∀(j:Nat) x,cs[j]? = some x→arr[g.2+j]? = some x) (hk0:w2.heap[gy.1]? = some (.cells ya ty (0,0))) :
  kq gy ya ty go n el size cs w (.returned (.int .i64 (n:Int))) (w2.setCell ⟨gy.1,gy.2,none⟩ (.slice (some ⟨g.1,g.2,none⟩) (n+1) k)):=by
 obtain⟨hyl,-⟩:=Array.getElem?_eq_some_iff.1 hy
 have hgg:g.1≠gy.1:=by
  rcases q2 with q2|⟨g0,hg0,he⟩
  ·have:=hA.size;omega
  ·rw[he];exact hne g0 hg0
 have hb:cr (fun b=>b=gy.1∨mq go b) w w2:=cr.trans (L:=fun b=>b=gy.1∨mq go b) (L':=mq go) ⟨hA.os,hA.tape,hA.output,hA.size,fun k hk _=>hA.block k hk (fun h=>h)⟩ q1 (fun x hx _ =>.inr hx)
 refine⟨rfl,⟨hb.os,hb.tape,hb.output,by simpa [World.setCell] using hb.size,fun b hb1 hb2 =>?_⟩,g,k,arr,?_,?_,?_,q4,q5,q6,q7⟩
 ·rw[vp _ _ _ _ (fun h=>hb2 (.inl h))]
  exact hb.block b hb1 hb2
 ·exact q2.imp (fun h=>Nat.le_trans hA.size h) (fun h=>h)
 ·simp[World.setCell,Array.getElem?_modify,hk0]
 ·rw[vp _ _ _ _ hgg];exact q3
set_option maxHeartbeats 2000000 in
set_option maxRecDepth 100000 in
theorem H7 (w:World) (gy:Nat×Nat) (ya:Array Value) (ty:Nat) (go:Option (Nat×Nat)) (u:Value) (n:Nat) (cs:List Value) (s:ByteArray) (v1 v2 v3 v4:Int) (hy:w.heap[gy.1]? = some (.cells ya ty (0,0))) (hu:ya[gy.2]? = some u)
  (hs:xR w 87 5 go u n cs) (hne:∀g,go=some g→g.1≠gy.1) (hcs:cs.length=n*5) (hb:(n+1)*48≤140737488355328) :
  Calls Tryz.prog 64 #[.pointer (some ⟨gy.1,gy.2,none⟩),.agg #[.string s,.int .i64 v1,.int .i64 v2,.int .i64 v3,.int .i64 v4]] w (kq gy ya ty go n 87 5 (cs++[.string s,.int .i64 v1,.int .i64 v2,.int .i64 v3,.int .i64 v4]) w):=by
 obtain⟨hyl,-⟩:=Array.getElem?_eq_some_iff.1 hy
 obtain⟨hul,hue⟩:=Array.getElem?_eq_some_iff.1 hu
 have hcell:∀w':World,w'.heap[gy.1]? = w.heap[gy.1]?→w'.cell? ⟨gy.1,gy.2,none⟩=some u∧w'.frozen? ⟨gy.1,gy.2,none⟩=false:=by
  intro w' h
  rw[hy]at h
  refine⟨?_,?_⟩
  ·rw[bG h hul,Array.getD_eq_getD_getElem?,hu];rfl
  ·simp[World.frozen?,h]
 go_enter Tryz.func64,Tryz.ntmps64
 go_wp2
 generalize hW:w.alloc (.cells #[.string s,.int .i64 v1,.int .i64 v2,.int .i64 v3,.int .i64 v4] 87)=W
 have hWs:W.heap.size=w.heap.size+1:=by rw[← hW];simp
 have hWb:cr (fun _=>False) w W:=by rw[← hW];exact Gu _ w _
 have hWn:W.heap[w.heap.size]? = some (.cells #[.string s,.int .i64 v1,.int .i64 v2,.int .i64 v3,.int .i64 v4] 87):=by rw[← hW];exact heap_alloc_new w _
 have c0:W.drew.cell? ⟨gy.1,gy.2,none⟩=some u:=(hcell W.drew (hWb.block gy.1 hyl (fun h=>h))).1
 have c1:∀o,(W.drew.alloc o).cell? ⟨gy.1,gy.2,none⟩=some u:=fun o=>(hcell (W.drew.alloc o) ((heap_alloc_old W.drew o (by show gy.1<W.heap.size;omega)).trans (hWb.block gy.1 hyl (fun h=>h)))).1
 have c2:∀o,(W.alloc o).drew.cell? ⟨gy.1,gy.2,none⟩=some u:=c1
 have b0:W.drew.cell? ⟨w.heap.size,0,none⟩=some (.string s):=bG (w:=W.drew) hWn (by simp)
 have b1:W.drew.cell? ⟨w.heap.size,1,none⟩=some (.int .i64 v1):=bG (w:=W.drew) hWn (by simp)
 have b2:W.drew.cell? ⟨w.heap.size,2,none⟩=some (.int .i64 v2):=bG (w:=W.drew) hWn (by simp)
 have b3:W.drew.cell? ⟨w.heap.size,3,none⟩=some (.int .i64 v3):=bG (w:=W.drew) hWn (by simp)
 have b4:W.drew.cell? ⟨w.heap.size,4,none⟩=some (.int .i64 v4):=bG (w:=W.drew) hWn (by simp)
 generalize hO:Obj.cells #[.string s,.int .i64 v1,.int .i64 v2,.int .i64 v3,.int .i64 v4] 87=O at *
 have hbb:cr (fun _=>False) w (W.drew.alloc O):=hWb.trans (show cr (fun _=>False) W (W.drew.alloc O) from ⟨rfl,rfl,rfl,by simp,fun k hk _=>heap_alloc_old W.drew O hk⟩) (fun _ h _=>h)
 have hsA:=hs.later hbb
 have hnews:∀(j:Nat) x,([Value.string s,.int .i64 v1,.int .i64 v2,.int .i64 v3,.int .i64 v4]:List Value)[j]? = some x→(W.drew.alloc O).cell? ((⟨w.heap.size+1,0,none⟩:Addr).add j)=some x:=by
  intro j x hj
  have hn:(W.drew.alloc O).heap[w.heap.size+1]? = some (.cells #[.string s,.int .i64 v1,.int .i64 v2,.int .i64 v3,.int .i64 v4] 87):=by rw[hO,← hWs];exact heap_alloc_new W.drew _
  have hlt:=(List.getElem?_eq_some_iff.1 hj).1
  rw[lp,Nat.zero_add,bG hn (by simpa using hlt),Array.getD_eq_getD_getElem?]
  simp only[List.getElem?_toArray,hj,Option.getD_some]
 have hones:∀x∈([Value.string s,.int .i64 v1,.int .i64 v2,.int .i64 v3,.int .i64 v4]:List Value),x.oneCell'=true:=by
  intro x hx
  simp only[List.mem_cons,List.not_mem_nil,or_false]at hx
  rcases hx with rfl|rfl|rfl|rfl|rfl<;>rfl
 subst hO
 have hnot:¬mq go gy.1:=by rintro⟨g,hg,he⟩;exact hne g hg he.symm
 go_region_law (refine CY rfl (.tmp 10) (.tmp 12) 22 87 rfl Tryz.underlying22 VT (by decide) rfl (by decide) rfl hsA hcs ⟨w.heap.size+1,0,none⟩ 1 _ rfl rfl hnews hones hb ?_;intro g k arr w2 q1 q2 q3 q4 q5 q6 q7;have hk0:w2.heap[gy.1]? = some (.cells ya ty (0,0)):=(q1.block gy.1 (Nat.lt_of_lt_of_le hyl hbb.size) hnot).trans ((hbb.block gy.1 hyl (fun h=>h)).trans hy);obtain⟨d0,d1⟩:=hcell w2 (hk0.trans hy.symm))
 all_goals go_wp2
 all_goals go_ret
 all_goals exact PX hy hul hne hbb q1 q2 q3 q4 q5 q6 q7 hk0
set_option maxHeartbeats 4000000 in
set_option maxRecDepth 100000 in
theorem Qr (w:World) (gy:Nat×Nat) (ya:Array Value) (ty:Nat) (go:Option (Nat×Nat)) (u:Value) (n:Nat) (cs:List Value) (i j:Nat) (s1 s2:ByteArray) (v1 v2 v3 v4 u1 u2 u3 u4:Int) (hy:w.heap[gy.1]? = some (.cells ya ty (0,0))) (hu:ya[gy.2]? = some u)
  (hs:xR w 87 5 go u n cs) (hne:∀g,go=some g→g.1≠gy.1) (hcs:cs.length=n*5) (hb:(n+1)*48≤140737488355328) (hi:i<n) (hj:j<n)
  (hx:∀q x,[Value.string s1,.int .i64 v1,.int .i64 v2,.int .i64 v3,.int .i64 v4][q]? = some x→cs[i*5+q]? = some x) (hz:∀q x,[Value.string s2,.int .i64 u1,.int .i64 u2,.int .i64 u3,.int .i64 u4][q]? = some x→cs[j*5+q]? = some x) :
  Calls Tryz.prog 66 #[.pointer (some ⟨gy.1,gy.2,none⟩),.int .i64 (i:Int),.int .i64 (j:Int)] w (kq gy ya ty go n 87 5 (cs++[.string ⟨#[]⟩,.int .i64 (IntKind.i64.wrap (v1+u1)),.int .i64 (IntKind.i64.wrap (v2+u2)),.int .i64 (i:Int),.int .i64 (j:Int)]) w):=by
 obtain⟨hyl,-⟩:=Array.getElem?_eq_some_iff.1 hy
 obtain⟨hul,hue⟩:=Array.getElem?_eq_some_iff.1 hu
 rcases hs with⟨g,c,arr,hgo,rfl,hh,hsz,hn,hmx,hcell⟩|⟨-,hn,-⟩
 rotate_left
 ·omega
 obtain⟨hgl,-⟩:=Array.getElem?_eq_some_iff.1 hh
 have ecel:∀w':World,(∀k,k<w.heap.size→w'.heap[k]? = w.heap[k]?)→w'.cell? ⟨gy.1,gy.2,none⟩=some (.slice (some ⟨g.1,g.2,none⟩) n c):=by
  intro w' hw
  rw[bG ((hw _ hyl).trans hy) hul,Array.getD_eq_getD_getElem?,hu];rfl
 have cel:∀w':World,(∀k,k<w.heap.size→w'.heap[k]? = w.heap[k]?)→∀(k:Nat) x,cs[k]? = some x→w'.cell? ⟨g.1,g.2+k,none⟩=some x:=by
  intro w' hw k x hk
  have:=hcell k x hk
  have hlt:=(Array.getElem?_eq_some_iff.1 this).1
  rw[bG ((hw _ hgl).trans hh) hlt,Array.getD_eq_getD_getElem?,this];rfl
 have w1:∀o k,k<w.heap.size→(w.alloc o).heap[k]? = w.heap[k]?:=fun o k hk=>heap_alloc_old w o hk
 have w2:∀o o' k,k<w.heap.size→((w.alloc o).alloc o').heap[k]? = w.heap[k]?:=fun o o' k hk=>(heap_alloc_old (w.alloc o) o' (by simp;omega)).trans (heap_alloc_old w o hk)
 have e0:=ecel w (fun _ _=>rfl)
 have e1:=fun o=>ecel (w.alloc o) (w1 o)
 have e2:=fun o o'=>ecel ((w.alloc o).alloc o') (w2 o o')
 have a0:∀w':World,(∀k,k<w.heap.size→w'.heap[k]? = w.heap[k]?)→w'.cell? ⟨g.1,g.2+i*5,none⟩=some (.string s1):=fun w' hw=>cel w' hw (i*5+0) _ (hx 0 _ rfl)
 have a0x:=a0 w (fun _ _=>rfl)
 have a0y:=fun o=>a0 (w.alloc o) (w1 o)
 have a0z:=fun o o'=>a0 ((w.alloc o).alloc o') (w2 o o')
 clear a0
 have a1:∀w':World,(∀k,k<w.heap.size→w'.heap[k]? = w.heap[k]?)→w'.cell? ⟨g.1,g.2+i*5+1,none⟩=some (.int .i64 v1):=fun w' hw=>cel w' hw (i*5+1) _ (hx 1 _ rfl)
 have a1x:=a1 w (fun _ _=>rfl)
 have a1y:=fun o=>a1 (w.alloc o) (w1 o)
 have a1z:=fun o o'=>a1 ((w.alloc o).alloc o') (w2 o o')
 clear a1
 have a2:∀w':World,(∀k,k<w.heap.size→w'.heap[k]? = w.heap[k]?)→w'.cell? ⟨g.1,g.2+i*5+2,none⟩=some (.int .i64 v2):=fun w' hw=>cel w' hw (i*5+2) _ (hx 2 _ rfl)
 have a2x:=a2 w (fun _ _=>rfl)
 have a2y:=fun o=>a2 (w.alloc o) (w1 o)
 have a2z:=fun o o'=>a2 ((w.alloc o).alloc o') (w2 o o')
 clear a2
 have a3:∀w':World,(∀k,k<w.heap.size→w'.heap[k]? = w.heap[k]?)→w'.cell? ⟨g.1,g.2+i*5+3,none⟩=some (.int .i64 v3):=fun w' hw=>cel w' hw (i*5+3) _ (hx 3 _ rfl)
 have a3x:=a3 w (fun _ _=>rfl)
 have a3y:=fun o=>a3 (w.alloc o) (w1 o)
 have a3z:=fun o o'=>a3 ((w.alloc o).alloc o') (w2 o o')
 clear a3
 have a4:∀w':World,(∀k,k<w.heap.size→w'.heap[k]? = w.heap[k]?)→w'.cell? ⟨g.1,g.2+i*5+4,none⟩=some (.int .i64 v4):=fun w' hw=>cel w' hw (i*5+4) _ (hx 4 _ rfl)
 have a4x:=a4 w (fun _ _=>rfl)
 have a4y:=fun o=>a4 (w.alloc o) (w1 o)
 have a4z:=fun o o'=>a4 ((w.alloc o).alloc o') (w2 o o')
 clear a4
 have b0:∀w':World,(∀k,k<w.heap.size→w'.heap[k]? = w.heap[k]?)→w'.cell? ⟨g.1,g.2+j*5,none⟩=some (.string s2):=fun w' hw=>cel w' hw (j*5+0) _ (hz 0 _ rfl)
 have b0x:=b0 w (fun _ _=>rfl)
 have b0y:=fun o=>b0 (w.alloc o) (w1 o)
 have b0z:=fun o o'=>b0 ((w.alloc o).alloc o') (w2 o o')
 clear b0
 have b1:∀w':World,(∀k,k<w.heap.size→w'.heap[k]? = w.heap[k]?)→w'.cell? ⟨g.1,g.2+j*5+1,none⟩=some (.int .i64 u1):=fun w' hw=>cel w' hw (j*5+1) _ (hz 1 _ rfl)
 have b1x:=b1 w (fun _ _=>rfl)
 have b1y:=fun o=>b1 (w.alloc o) (w1 o)
 have b1z:=fun o o'=>b1 ((w.alloc o).alloc o') (w2 o o')
 clear b1
 have b2:∀w':World,(∀k,k<w.heap.size→w'.heap[k]? = w.heap[k]?)→w'.cell? ⟨g.1,g.2+j*5+2,none⟩=some (.int .i64 u2):=fun w' hw=>cel w' hw (j*5+2) _ (hz 2 _ rfl)
 have b2x:=b2 w (fun _ _=>rfl)
 have b2y:=fun o=>b2 (w.alloc o) (w1 o)
 have b2z:=fun o o'=>b2 ((w.alloc o).alloc o') (w2 o o')
 clear b2
 have b3:∀w':World,(∀k,k<w.heap.size→w'.heap[k]? = w.heap[k]?)→w'.cell? ⟨g.1,g.2+j*5+3,none⟩=some (.int .i64 u3):=fun w' hw=>cel w' hw (j*5+3) _ (hz 3 _ rfl)
 have b3x:=b3 w (fun _ _=>rfl)
 have b3y:=fun o=>b3 (w.alloc o) (w1 o)
 have b3z:=fun o o'=>b3 ((w.alloc o).alloc o') (w2 o o')
 clear b3
 have b4:∀w':World,(∀k,k<w.heap.size→w'.heap[k]? = w.heap[k]?)→w'.cell? ⟨g.1,g.2+j*5+4,none⟩=some (.int .i64 u4):=fun w' hw=>cel w' hw (j*5+4) _ (hz 4 _ rfl)
 have b4x:=b4 w (fun _ _=>rfl)
 have b4y:=fun o=>b4 (w.alloc o) (w1 o)
 have b4z:=fun o o'=>b4 ((w.alloc o).alloc o') (w2 o o')
 clear b4
 clear hx hz ecel cel w1
 have w3:∀o o' k,k<w.heap.size→((w.alloc o).alloc o').drew.heap[k]? = w.heap[k]?:=w2
 have hi1:(0:Int)≤(i:Int):=by omega
 have hi2:(i:Int)<(n:Int):=by omega
 have hj1:(0:Int)≤(j:Int):=by omega
 have hj2:(j:Int)<(n:Int):=by omega
 go_enter Tryz.func66,Tryz.ntmps66
 go_wp2
 go_region
 all_goals (go_wp2_with (go_at_call 64;refine (H7 _ gy ya ty go _ n cs _ _ _ _ _ ((w3 _ _ _ hyl).trans hy) hu (xR.later (.inl ⟨g,c,arr,hgo,rfl,hh,hsz,hn,hmx,hcell⟩) (AU w _ _)) hne hcs hb).mono ?_;rintro e w' hp;obtain⟨rfl,hp2⟩:=kq.base (AU w _ _) hp))
 all_goals go_ret
 all_goals (simp only[← IntWalk.i64_left]at hp2;exact⟨rfl,hp2.1,hp2.2⟩)
section
variable {α:Type} (E:jJ α) (mk:ByteArray→Int→Int→Int→Int→α) (hmk:∀s a b c d,E.cells (mk s a b c d)=[.str s,.int .i64 a,.int .i64 b,.int .i64 c,.int .i64 d]) (hall:∀x,∃s a b c d,x=mk s a b c d)
include hmk hall
theorem rz:E.size=5:=by
 rw[← E.len (mk ⟨#[]⟩ 0 0 0 0),hmk];rfl
theorem rv (x:α):∀d∈E.cells x,u9 d=true:=by
 obtain⟨s,a,b,c,d,rfl⟩:=hall x
 rw[hmk]
 intro y hy
 simp only[List.mem_cons,List.not_mem_nil,or_false]at hy
 rcases hy with rfl|rfl|rfl|rfl|rfl<;>rfl
theorem zG (l:List α):∀d∈ab E l,u9 d=true:=by
 induction l with
 | nil=>intro d hd;cases hd
 | cons x l ih =>
  intro d hd
  rcases List.mem_append.1 hd with h|h
  ·exact rv E mk hmk hall x d h
  ·exact ih d h
theorem V0:AJ Tryz.prog 64 ⟨87,5,48,pJ E (dK (cR E)) H6⟩ where
 callable:=⟨_,Tryz.func64,by kernel_rfl,by kernel_rfl⟩
 pos:=Nat.zero_lt_succ 4
 flat ds us cs h:=by
  obtain⟨l,b,x,rfl,rfl,hx,rfl⟩:=qM (show pJ E (dK (cR E)) H6 ds us=some cs from h)
  refine⟨zG E mk hmk hall l,fun d hd =>?_,rv E mk hmk hall x,by rw[E.len];exact rz E mk hmk hall⟩
  simp only[dK,List.mem_cons,List.not_mem_nil,or_false]at hd
  subst hd
  exact List.all_eq_true.2 (rv E mk hmk hall b)
 calls w gy ya ty go u n ds us cs hy hu hs hne hlen hsem hb:=by
  obtain⟨l,b,x,rfl,rfl,hx,rfl⟩:=qM (show pJ E (dK (cR E)) H6 ds us=some cs from hsem)
  obtain rfl:b=x:=by simpa [H6] using hx
  obtain⟨s,v1,v2,v3,v4,rfl⟩:=hall b
  have h:=H7 w gy ya ty go u n _ s v1 v2 v3 v4 hy hu hs hne (by simpa using hlen) hb
  have e1:(dK (cR E)).ds (mk s v1 v2 v3 v4)=[.agg [.str s,.int .i64 v1,.int .i64 v2,.int .i64 v3,.int .i64 v4]]:=by
   simp only[dK,VZ,hmk]
  rw[e1,hmk]
  refine h.mono fun e w' hp =>?_
  simpa [kq,Ah] using hp
end
section
variable {α:Type} (E:jJ α) (mk:ByteArray→Int→Int→Int→Int→α) (hmk:∀s a b c d,E.cells (mk s a b c d)=[.str s,.int .i64 a,.int .i64 b,.int .i64 c,.int .i64 d]) (hall:∀x,∃s a b c d,x=mk s a b c d) (val bl:α→Int) (hval:∀s a b c d,val (mk s a b c d)=a) (hbl:∀s a b c d,bl (mk s a b c d)=b)
include hmk hall hval hbl
theorem C0 {l:List α} {i:Int} {s:ByteArray} {v1 v2 v3 v4:Int} (h:P.idx l i=some (mk s v1 v2 v3 v4)):0≤i∧i<l.length∧∀q x,[Value.string s,.int .i64 v1,.int .i64 v2,.int .i64 v3,.int .i64 v4][q]? = some x→((ab E l).map Ah)[i.toNat*5+q]? = some x:=by
 have hb:=s8 h
 have ha:=wV E h
 rw[rz E mk hmk hall,hmk]at ha
 refine⟨hb.1,hb.2,fun q x hx =>?_⟩
 have hq:=(List.getElem?_eq_some_iff.1 hx).1
 simp only[List.length_cons,List.length_nil]at hq
 have h1:((ab E l).drop (i.toNat*5))[q]? = [D.str s,.int .i64 v1,.int .i64 v2,.int .i64 v3,.int .i64 v4][q]?:=by
  rw[ha,List.getElem?_append_left (by simpa using hq)]
 rw[List.getElem?_drop]at h1
 rw[List.getElem?_map,h1,← List.getElem?_map]
 exact hx
theorem UR:AJ Tryz.prog 66 ⟨87,5,48,pJ E (dR (aI .i64) (dK (aI .i64))) (zj mk val bl)⟩ where
 callable:=⟨_,Tryz.func66,by kernel_rfl,by kernel_rfl⟩
 pos:=Nat.zero_lt_succ 4
 flat ds us cs h:=by
  obtain⟨l,b,x,rfl,rfl,hx,rfl⟩:=qM (show pJ E (dR (aI .i64) (dK (aI .i64))) (zj mk val bl) ds us=some cs from h)
  refine⟨zG E mk hmk hall l,fun d hd =>?_,rv E mk hmk hall x,by rw[E.len];exact rz E mk hmk hall⟩
  simp only[dK,dR,Yw,List.mem_cons,List.not_mem_nil,or_false]at hd
  rcases hd with rfl|rfl<;>rfl
 calls w gy ya ty go u n ds us cs hy hu hs hne hlen hsem hb:=by
  obtain⟨l,⟨i,j⟩,z,rfl,rfl,hz,rfl⟩:=qM (show pJ E (dR (aI .i64) (dK (aI .i64))) (zj mk val bl) ds us=some cs from hsem)
  unfold zj at hz
  obtain⟨x,hx,hz⟩:=ae hz
  obtain⟨y,hy1,hz⟩:=ae hz
  simp only[Option.some.injEq]at hz
  subst hz
  obtain⟨s,v1,v2,v3,v4,rfl⟩:=hall x
  obtain⟨s2,u1,u2,u3,u4,rfl⟩:=hall y
  obtain⟨i1,i2,i3⟩:=C0 E mk hmk hall val bl hval hbl hx
  obtain⟨j1,j2,j3⟩:=C0 E mk hmk hall val bl hval hbl hy1
  have hn:l.length=n:=by
   rw[cN,rz E mk hmk hall]at hlen
   exact Nat.eq_of_mul_eq_mul_right (by decide) hlen
  have h:=Qr w gy ya ty go u n _ i.toNat j.toNat s s2 v1 v2 v3 v4 u1 u2 u3 u4 hy hu hs hne (by simpa using hlen) hb (by omega) (by omega) i3 j3
  have ei:((i.toNat:Nat):Int)=i:=by omega
  have ej:((j.toNat:Nat):Int)=j:=by omega
  rw[ei,ej]at h
  rw[hmk,hval,hval,hbl,hbl]
  refine h.mono fun e w' hp =>?_
  simpa [kq,Ah] using hp
end
set_option maxRecDepth 100000
noncomputable def JR:List (String×DataW Unit):=[("math/bits.deBruijn32tab",Rows.laid_math_bits_deBruijn32tab),("math/bits.deBruijn64tab",Rows.laid_math_bits_deBruijn64tab),("internal/strconv.uint64pow10",Rows.laid_internal_strconv_uint64pow10)]
theorem RN (os:Os) (args:Array Value):laidMetH Tryz.prog JR ((World.doorLaid Tryz.prog 400 os).forCall (fun _ _=>0) ⟨#[],args,[]⟩).memory :=
 laidMetH_of_parts3 (fuel:=8) (laidMet_of_run' 8 (by kernel_rfl) (by kernel_rfl)) (by kernel_rfl) (by kernel_rfl)
theorem UC:Rows.laid_internal_strconv_uint64pow10 (H:=Unit)=Lib.tabData .u64 Lib.pow10Tab:=by
 simp[Rows.laid_internal_strconv_uint64pow10,Lib.tabData,Lib.pow10Tab,List.range,List.range.loop]
theorem Sh {w:World} (h:laidMetH Tryz.prog JR w):Gs w (fun _=>False):=fun b hb=>by
 rw[MakeChecks.laidMetH_plain _ _ _ (by kernel_rfl)]at h
 have h3:laidMet Tryz.prog [("internal/strconv.uint64pow10",Rows.laid_internal_strconv_uint64pow10)] w:=h.tail.tail
 rw[UC]at h3
 have ht:Lib.TabIs Tryz.prog w "internal/strconv.uint64pow10" .u64 Lib.pow10Tab:=Lib.tabIs_of_head (g:=0) (t:=204) (e:=178) (n:=20) (by kernel_rfl) (by kernel_rfl) (by kernel_rfl) (by kernel_rfl) (by kernel_rfl) (by kernel_rfl) h3
 cases hb
 have hg:Tryz.prog.globalNamed "internal/strconv.uint64pow10" = some 0:=by kernel_rfl
 simp only[Lib.TabIs,World.var?,hg,Option.bind_some]at ht
 have hc:∃ty fr,w.heap[0]? = some (.cells mD ty fr):=by
  split at ht
  ·rename_i cs ty fr hcs
   refine⟨ty,fr,?_⟩
   rw[hcs]
   have e:cs=mD:=by
    have:=Option.some.inj ht
    rw[this]
    simp[Lib.pow10Tab,mD]
   rw[e]
  ·cases ht
 obtain⟨ty,fr,hc⟩:=hc
 exact⟨(Array.getElem?_eq_some_iff.1 hc).1,fun h=>h,ty,fr,hc⟩
end Go.Proofs.YtpkahnkoecbndaaGreatDoor.Am
namespace Go.Proofs.YtpkahnkoecbndaaGreatDoor.P
open Go.RowKit
set_option linter.unusedVariables false
structure az where
 aj:Int
 aa:(List Int)
structure ba where
 cz:az
 cw:az
structure ew where
 bB:ba
 aV:ba
structure aG where
 cg:Int
 bL:ew
structure fq where
 aH:(List ByteArray)
 aP:(List Int)
 aO:(List Int)
structure aC where
 cg:Int
 bo:(List Int)
 bE:ByteArray
 ay:Int
 aA:Int
structure bn where
 cg:Int
 kz:Int
structure ak where
 bE:ByteArray
 ay:Int
 aA:Int
 aY:Int
 aQ:Int
structure av where
 ag:(List ak)
structure jM where
 Uz:av
 xZ:Int
 tT:Int
 tS:Int
structure wc where
 Au:av
def W5:ByteArray:=ByteArray.mk #[0,1,2,2,3,3,3,3,4,4,4,4,4,4,4,4,5,5,5,5,5,5,5,5,5,5,5,5,5,5,5,5,6,6,6,6,6,6,6,6,6,6,6,6,6,6,6,6,6,6,6,6,6,6,6,6,6,6,6,6,6,6,6,6,7,7,7,7,7,7,7,7,7,7,7,7,7,7,7,7,7,7,7,7,7,7,7,7,7,7,7,7,7,7,7,7,7,7,7,7,7,7,7,7,7,7,7,7,7,7,7,7,7,7,7,7,7,7,7,7,7,7,7,7,7,7,7,7,8,8,8,8,8,8,8,8,8,8,8,8,8,8,8,8,8,8,8,8,8,8,8,8,8,8,8,8,8,8,8,8,8,8,8,8,8,8,8,8,8,8,8,8,8,8,8,8,8,8,8,8,8,8,8,8,8,8,8,8,8,8,8,8,8,8,8,8,8,8,8,8,8,8,8,8,8,8,8,8,8,8,8,8,8,8,8,8,8,8,8,8,8,8,8,8,8,8,8,8,8,8,8,8,8,8,8,8,8,8,8,8,8,8,8,8,8,8,8,8,8,8,8,8,8,8,8,8]
def eg (p0:Int) (p1:Int):Option (Bool) :=
 if decide (p0≥0) then
  some (decide (p0≤p1))
 else
  some false
def iY (p0:ak):Option (Bool) :=
 (if (p0.aY==(-1)) then
  some (p0.aQ==(-1))
 else
  some false).bind fun s3j1 =>
 if s3j1 then
  if decide ((p0.bE.size:Int)≤8000) then
   (eg p0.ay 1099511627776).bind fun r4 =>
   if r4 then
    (eg p0.aA 1099511627776).bind fun r6 =>
    some r6
   else
    some false
  else
   some false
 else
  some false
def jU (p0:(List ak)) (p1:Int) (p2:Int):Option (ak×Int) :=
 (eg p1 (IntKind.i64.wrap ((p0.length:Int)-1))).bind fun r1 =>
 (if (!r1) then
  some true
 else
  (eg p2 (IntKind.i64.wrap ((p0.length:Int)-1))).bind fun r9 =>
  some (!r9)).bind fun s24j1 =>
 if s24j1 then
  some ((ak.mk (ByteArray.mk #[]) 0 0 0 0),4)
 else
  (P.idx p0 p1).bind fun x4 =>
  (P.idx p0 p2).bind fun x5 =>
  if decide ((IntKind.i64.wrap (x4.ay+x5.ay))>1125899906842624) then
   some ((ak.mk (ByteArray.mk #[]) 0 0 0 0),3)
  else
   if decide ((IntKind.i64.wrap (x4.aA+x5.aA))>1125899906842624) then
    some ((ak.mk (ByteArray.mk #[]) 0 0 0 0),3)
   else
    some ((ak.mk (ByteArray.mk #[]) (IntKind.i64.wrap (x4.ay+x5.ay)) (IntKind.i64.wrap (x4.aA+x5.aA)) p1 p2),0)
def kY (p0:av):(Int)→Option ((Int)⊕((Unit)⊕(Bool)))
 | s14a =>
  if decide (s14a<(p0.ag.length:Int)) then
   (P.idx p0.ag s14a).bind fun x13 =>
   (iY x13).bind fun r14 =>
   if r14 then
    some (.inl (IntKind.i64.wrap (s14a+1)))
   else
    (CV p0.ag 0 s14a).bind fun x16 =>
    (jU x16 x13.aY x13.aQ).bind fun r18 =>
    if (r18.2 != 0) then
     some (.inr (.inr false))
    else
     if (!((x13.bE==r18.1.bE)&&((x13.ay==r18.1.ay)&&((x13.aA==r18.1.aA)&&((x13.aY==r18.1.aY)&&(x13.aQ==r18.1.aQ)))))) then
      some (.inr (.inr false))
     else
      some (.inl (IntKind.i64.wrap (s14a+1)))
  else
   some (.inr (.inl ()))
def dq (p0:av):Option (Bool) :=
 if decide ((p0.ag.length:Int)>2000) then
  some false
 else
  (a8 (kY p0) 0).bind fun q=>match q with
  | (.inl _) =>
   some true
  | (.inr ra) =>
   some ra
def kd (p0:ByteArray) (p1:Int) (p2:Int):Option (ak) :=
 some (ak.mk p0 p1 p2 (-1) (-1))
def dA (p0:(List ak)):Option (List ak):=iH 48 [] p0
def lE (l:List ak) (p1:ak):Option (List ak):=(H6 l p1).bind fun x=>iH 48 l [x]
def bD (p0:(List Int)):Option (List Int):=iH 8 [] p0
def iF (l:List ak) (p1:Int) (p2:Int):Option (List ak):=((zj ak.mk (fun x=>x.ay) (fun x=>x.aA)) l (p1,p2)).bind fun x=>iH 48 l [x]
def jy (p1:(List ByteArray)) (p2:(List Int)) (p3:(List Int)):(Int)→Option ((Int)⊕((Unit)⊕(av×Int×(List Int)×Int)))
 | s43b =>
  if decide (s43b<(p1.length:Int)) then
   (P.idx p1 s43b).bind fun x14 =>
   (P.idx p2 s43b).bind fun x15 =>
   (P.idx p3 s43b).bind fun x16 =>
   (kd x14 x15 x16).bind fun r17 =>
   (dq (av.mk ([r17]))).bind fun r19 =>
   if (!r19) then
    some (.inr (.inr ((av.mk ([])),(-1),[],1)))
   else
    some (.inl (IntKind.i64.wrap (s43b+1)))
  else
   some (.inr (.inl ()))
def ir (p1:(List ByteArray)) (p2:(List Int)) (p3:(List Int)):(Int×(List Int)×(List ak))→Option ((Int×(List Int)×(List ak))⊕(((List Int)×(List ak))))
 | (s85d,l10d,l1000014d) =>
  if decide (s85d<(p1.length:Int)) then
   (P.idx p1 s85d).bind fun x35 =>
   (P.idx p2 s85d).bind fun x36 =>
   (P.idx p3 s85d).bind fun x37 =>
   (kd x35 x36 x37).bind fun r38 =>
   (lE l1000014d r38).bind fun x39 =>
   (iH 8 l10d [(l1000014d.length:Int)]).bind fun x41 =>
   some (.inl (IntKind.i64.wrap (s85d+1),x41,x39))
  else
   some (.inr (l10d,l1000014d))
def iu (l16e:(List Int)):(Int×(List Int)×(List ak))→Option ((Int×(List Int)×(List ak))⊕(((List Int)×(List ak))))
 | (s18g,l17g,l1000014g) =>
  if decide ((IntKind.i64.wrap (s18g+1))<((l16e).length:Int)) then
   (P.idx l16e s18g).bind fun x77 =>
   (P.idx l16e (IntKind.i64.wrap (s18g+1))).bind fun x78 =>
   (iF l1000014g x77 x78).bind fun x79 =>
   (iH 8 l17g [(l1000014g.length:Int)]).bind fun x81 =>
   some (.inl (IntKind.i64.wrap (s18g+2),x81,x79))
  else
   some (.inr (l17g,l1000014g))
def fZ:((List Int)×(List ak))→Option (((List Int)×(List ak))⊕(((List Int)×(List ak))))
 | (l16e,l1000014e) =>
  if decide (((l16e).length:Int)>1) then
   (a8 (iu l16e) (0,[],l1000014e)).bind fun q=>match q with
   | (l17gx,l1000014gx) =>
    (tk .i64 ((l16e).length:Int) 2).bind fun x83 =>
    if (x83==1) then
     (P.idx l16e (IntKind.i64.wrap (((l16e).length:Int)-1))).bind fun x86 =>
     (iH 8 l17gx [x86]).bind fun x87 =>
     some (.inl (x87,l1000014gx))
    else
     some (.inl (l17gx,l1000014gx))
  else
   some (.inr (l16e,l1000014e))
def gV (p0:av) (p1:(List ByteArray)) (p2:(List Int)) (p3:(List Int)):Option (av×Int×(List Int)×Int) :=
 (dq p0).bind fun r1 =>
 (if (!r1) then
  some true
 else
  if ((p1.length:Int)==0) then
   some true
  else
   if ((p2.length:Int) != (p1.length:Int)) then
    some true
   else
    some ((p3.length:Int) != (p1.length:Int))).bind fun s39j1 =>
 if s39j1 then
  some ((av.mk ([])),(-1),[],1)
 else
  (a8 (jy p1 p2 p3) 0).bind fun q=>match q with
  | (.inl _) =>
   (if decide ((p1.length:Int)>64) then
    some true
   else
    some (decide ((IntKind.i64.wrap ((IntKind.i64.wrap ((p0.ag.length:Int)+(IntKind.i64.wrap (2*(p1.length:Int)))))-1))>2000))).bind fun s76j3 =>
   if s76j3 then
    some ((av.mk ([])),(-1),[],6)
   else
    (dA p0.ag).bind fun r23 =>
    (a8 (ir p1 p2 p3) (0,[],r23)).bind fun q=>match q with
    | (l10dx,l1000014dx) =>
     (bD l10dx).bind fun r43 =>
     (a8 (fZ) (r43,l1000014dx)).bind fun q=>match q with
     | (l16ex,l1000014ex) =>
      (P.idx l16ex 0).bind fun x89 =>
      some ((av.mk l1000014ex),x89,l10dx,0)
  | (.inr rb) =>
   some rb
def rT (p0:(List Int)) (p1:(List Int)):(Int)→Option ((Int)⊕((Unit)⊕(Bool)))
 | s5a =>
  if decide (s5a<(p0.length:Int)) then
   (P.idx p0 s5a).bind fun x8 =>
   (P.idx p1 s5a).bind fun x9 =>
   if (x8 != x9) then
    some (.inr (.inr false))
   else
    some (.inl (IntKind.i64.wrap (s5a+1)))
  else
   some (.inr (.inl ()))
def fR (p0:(List Int)) (p1:(List Int)):Option (Bool) :=
 if ((p0.length:Int) != (p1.length:Int)) then
  some false
 else
  (a8 (rT p0 p1) 0).bind fun q=>match q with
  | (.inl _) =>
   some true
  | (.inr ra) =>
   some ra
def tF (p0:(List Int)):(Int)→Option ((Int)⊕((Int)))
 | s3a =>
  if decide (s3a>0) then
   (P.idx p0 (IntKind.i64.wrap (s3a-1))).bind fun x6 =>
   if (x6==0) then
    some (.inl (IntKind.i64.wrap (s3a-1)))
   else
    some (.inr s3a)
  else
   some (.inr s3a)
def fQ (p0:(List Int)):Option ((List Int)) :=
 (a8 (tF p0) (p0.length:Int)).bind fun s3ax =>
 (CV p0 0 s3ax).bind fun x8 =>
 (iH 8 [] x8).bind fun _ =>
 some x8
def fC (p0:Int) (p1:(List Int)):Option (az) :=
 (fQ p1).bind fun r1 =>
 if ((r1.length:Int)==0) then
  some (az.mk 0 ([]))
 else
  some (az.mk p0 r1)
def uu:(Int×(List Int))→Option ((Int×(List Int))⊕(((List Int))))
 | (s0b,l4b) =>
  if (s0b != 0) then
   (tk .i64 s0b 1048576).bind fun x17 =>
   if decide (x17<0) then
    (iH 8 l4b [IntKind.i64.wrap (0-x17)]).bind fun x20 =>
    (xV .i64 s0b 1048576).bind fun x22 =>
    some (.inl (x22,x20))
   else
    (iH 8 l4b [x17]).bind fun x24 =>
    (xV .i64 s0b 1048576).bind fun x26 =>
    some (.inl (x26,x24))
  else
   some (.inr l4b)
def qV (p0:Int):Option (az) :=
 if (p0==0) then
  some (az.mk 0 ([]))
 else
  (if decide (p0<0) then
   some (-1)
  else
   some 1).bind fun s3j1 =>
  (a8 (uu) (p0,[])).bind fun l4bx =>
  (fC s3j1 l4bx).bind fun r28 =>
  some r28
def nt (p0:az):(Int)→Option ((Int)⊕((Unit)⊕(Bool)))
 | s3a =>
  if decide (s3a<(p0.aa.length:Int)) then
   (P.idx p0.aa s3a).bind fun x7 =>
   if decide (x7<0) then
    some (.inr (.inr false))
   else
    if decide (x7≥1048576) then
     some (.inr (.inr false))
    else
     some (.inl (IntKind.i64.wrap (s3a+1)))
  else
   some (.inr (.inl ()))
def dn (p0:az):Option (Bool) :=
 (a8 (nt p0) 0).bind fun q=>match q with
 | (.inl _) =>
  (if decide (p0.aj<(-1)) then
   some true
  else
   if decide (p0.aj>1) then
    some true
   else
    some (!(((p0.aa.length:Int)==0)==(p0.aj==0)))).bind fun s44j2 =>
  if s44j2 then
   some false
  else
   if ((p0.aa.length:Int)==0) then
    some true
   else
    (P.idx p0.aa (IntKind.i64.wrap ((p0.aa.length:Int)-1))).bind fun x13 =>
    some (x13 != 0)
 | (.inr ra) =>
  some ra
def ur (p0:az):Option (az) :=
 (dn p0).bind fun r1 =>
 if (!r1) then
  some (az.mk 0 ([]))
 else
  (fC (IntKind.i64.wrap (0-p0.aj)) p0.aa).bind fun r3 =>
  some r3
def fH (p0:(List Int)) (p1:Int):Option (Int) :=
 if decide (p1<(p0.length:Int)) then
  (P.idx p0 p1).bind fun x2 =>
  some x2
 else
  some 0
def ny (p0:(List Int)) (p1:(List Int)) (s6a:Int):(Int×Int×(List Int))→Option ((Int×Int×(List Int))⊕(((List Int))))
 | (s7e,s8e,l5e) =>
  (if decide (s8e<(p1.length:Int)) then
   some true
  else
   some (decide (s7e>0))).bind fun s29j7 =>
  if s29j7 then
   (P.idx l5e (IntKind.i64.wrap (s6a+s8e))).bind fun x43 =>
   (P.idx p0 s6a).bind fun x44 =>
   (fH p1 s8e).bind fun r45 =>
   (tk .i64 (IntKind.i64.wrap ((IntKind.i64.wrap (x43+(IntKind.i64.wrap (x44*r45))))+s7e)) 1048576).bind fun x46 =>
   (xV .i64 (IntKind.i64.wrap ((IntKind.i64.wrap (x43+(IntKind.i64.wrap (x44*r45))))+s7e)) 1048576).bind fun x49 =>
   some (.inl (x49,IntKind.i64.wrap (s8e+1),(l5e.set (IntKind.i64.wrap (s6a+s8e)).toNat x46)))
  else
   some (.inr l5e)
def nx (p0:(List Int)) (p1:(List Int)):(Int×(List Int))→Option ((Int×(List Int))⊕(((List Int))))
 | (s6a,l5a) =>
  if decide (s6a<(p0.length:Int)) then
   (a8 (ny p0 p1 s6a) (0,0,l5a)).bind fun l5ex =>
   some (.inl (IntKind.i64.wrap (s6a+1),l5ex))
  else
   some (.inr l5a)
def jg (p0:(List Int)) (p1:(List Int)):Option ((List Int)) :=
 (LG 8 (IntKind.i64.wrap ((p0.length:Int)+(p1.length:Int))) (IntKind.i64.wrap ((p0.length:Int)+(p1.length:Int))) 0).bind fun x1 =>
 (a8 (nx p0 p1) (0,x1)).bind fun l5ax =>
 (fQ l5ax).bind fun r52 =>
 some r52
def oZ (p0:(List Int)) (p1:(List Int)):(Int)→Option ((Int)⊕((Unit)⊕(Bool)))
 | s5a =>
  if decide (s5a≥0) then
   (fH p0 s5a).bind fun r7 =>
   (fH p1 s5a).bind fun r8 =>
   if (r7 != r8) then
    some (.inr (.inr (decide (r7<r8))))
   else
    some (.inl (IntKind.i64.wrap (s5a-1)))
  else
   some (.inr (.inl ()))
def mi (p0:(List Int)) (p1:(List Int)):Option (Bool) :=
 (a8 (oZ p0 p1) (IntKind.i64.wrap ((if (p1.length:Int)>(p0.length:Int) then (p1.length:Int) else (p0.length:Int))-1))).bind fun q=>match q with
 | (.inl _) =>
  some false
 | (.inr ra) =>
  some ra
def nw (p0:(List Int)) (p1:(List Int)):(Int×Int×(List Int))→Option ((Int×Int×(List Int))⊕(((List Int))))
 | (s6a,s7a,l5a) =>
  if decide (s7a<(p0.length:Int)) then
   (P.idx p0 s7a).bind fun x11 =>
   (fH p1 s7a).bind fun r12 =>
   if decide ((IntKind.i64.wrap ((IntKind.i64.wrap (x11-r12))-s6a))<0) then
    (iH 8 l5a [IntKind.i64.wrap ((IntKind.i64.wrap ((IntKind.i64.wrap (x11-r12))-s6a))+1048576)]).bind fun x14 =>
    some (.inl (1,IntKind.i64.wrap (s7a+1),x14))
   else
    (iH 8 l5a [IntKind.i64.wrap ((IntKind.i64.wrap (x11-r12))-s6a)]).bind fun x16 =>
    some (.inl (0,IntKind.i64.wrap (s7a+1),x16))
  else
   some (.inr l5a)
def j8 (p0:(List Int)) (p1:(List Int)):Option ((List Int)) :=
 (a8 (nw p0 p1) (0,0,[])).bind fun l5ax =>
 (fQ l5ax).bind fun r18 =>
 some r18
def ml (p1:(List Int)) (r34:(List Int)):(Int×Int)→Option ((Int×Int)⊕((Int)))
 | (s9c,s10c) =>
  if decide ((IntKind.i64.wrap (s10c-s9c))>1) then
   (xV .i64 (IntKind.i64.wrap (s9c+s10c)) 2).bind fun x44 =>
   (jg p1 ([x44])).bind fun r47 =>
   (mi r34 r47).bind fun r48 =>
   if r48 then
    some (.inl (s9c,x44))
   else
    some (.inl (x44,s10c))
  else
   some (.inr s9c)
def o0 (p0:(List Int)) (p1:(List Int)):((List Int)×Int×(List Int))→Option (((List Int)×Int×(List Int))⊕(((List Int)×(List Int))))
 | (s7a,s8a,l6a) =>
  if decide (s8a≥0) then
   (P.idx p0 s8a).bind fun x31 =>
   (iH 8 [x31] s7a).bind fun x32 =>
   (fQ x32).bind fun r34 =>
   (a8 (ml p1 r34) (0,1048576)).bind fun s9cx =>
   (P.idx l6a s8a).bind fun x50 =>
   (fQ ([s9cx])).bind fun r53 =>
   (jg p1 r53).bind fun r54 =>
   (j8 r34 r54).bind fun r55 =>
   some (.inl (r55,IntKind.i64.wrap (s8a-1),(l6a.set (s8a).toNat s9cx)))
  else
   some (.inr (s7a,l6a))
def mj (p0:(List Int)) (p1:(List Int)):Option ((List Int)×(List Int)) :=
 (LG 8 (p0.length:Int) (p0.length:Int) 0).bind fun x1 =>
 (a8 (o0 p0 p1) ([],IntKind.i64.wrap ((p0.length:Int)-1),x1)).bind fun q=>match q with
 | (s7ax,l6ax) =>
  (fQ l6ax).bind fun r56 =>
  some (r56,s7ax)
def oc:((List Int)×(List Int))→Option (((List Int)×(List Int))⊕(((List Int))))
 | (s6b,s7b) =>
  if decide ((s7b.length:Int)>0) then
   (mj s6b s7b).bind fun r8 =>
   some (.inl (s7b,r8.2))
  else
   some (.inr s6b)
def oY (p0:az) (p1:az):Option (az×Int) :=
 (dn p0).bind fun r1 =>
 (if (!r1) then
  some true
 else
  (dn p1).bind fun r11 =>
  some (!r11)).bind fun s17j1 =>
 if s17j1 then
  some ((az.mk 0 ([])),1)
 else
  (a8 (oc) (p0.aa,p1.aa)).bind fun s6bx =>
  (fC 1 s6bx).bind fun r9 =>
  some (r9,0)
def zC (p0:(List Int)) (p1:(List Int)):(Int×Int×(List Int))→Option ((Int×Int×(List Int))⊕(((List Int))))
 | (s6a,s7a,l5a) =>
  (if decide (s7a<(p0.length:Int)) then
   some true
  else
   if decide (s7a<(p1.length:Int)) then
    some true
   else
    some (decide (s6a>0))).bind fun s22j3 =>
  if s22j3 then
   (fH p0 s7a).bind fun r16 =>
   (fH p1 s7a).bind fun r17 =>
   (tk .i64 (IntKind.i64.wrap ((IntKind.i64.wrap (r16+r17))+s6a)) 1048576).bind fun x18 =>
   (iH 8 l5a [x18]).bind fun x20 =>
   (xV .i64 (IntKind.i64.wrap ((IntKind.i64.wrap (r16+r17))+s6a)) 1048576).bind fun x22 =>
   some (.inl (x22,IntKind.i64.wrap (s7a+1),x20))
  else
   some (.inr l5a)
def tE (p0:(List Int)) (p1:(List Int)):Option ((List Int)) :=
 (a8 (zC p0 p1) (0,0,[])).bind fun l5ax =>
 (fQ l5ax).bind fun r26 =>
 some r26
def uo (p0:az) (p1:az):Option (az×az×Int) :=
 (dn p0).bind fun r1 =>
 (if (!r1) then
  some true
 else
  (dn p1).bind fun r17 =>
  some (!r17)).bind fun s16j1 =>
 if s16j1 then
  some ((az.mk 0 ([])),(az.mk 0 ([])),1)
 else
  if (p1.aj==0) then
   some ((az.mk 0 ([])),(az.mk 0 ([])),15)
  else
   (mj p0.aa p1.aa).bind fun r5 =>
   (if decide ((IntKind.i64.wrap (p0.aj*p1.aj))≥0) then
    some true
   else
    some ((r5.2.length:Int)==0)).bind fun s42j2 =>
   if s42j2 then
    (fC (IntKind.i64.wrap (p0.aj*p1.aj)) r5.1).bind fun r8 =>
    (fC p0.aj r5.2).bind fun r9 =>
    some (r8,r9,0)
   else
    (tE r5.1 ([1])).bind fun r11 =>
    (fC (-1) r11).bind fun r12 =>
    (j8 p1.aa r5.2).bind fun r13 =>
    (fC p1.aj r13).bind fun r14 =>
    some (r12,r14,0)
def xl (p0:az) (p1:az):Option (ba×Int) :=
 (dn p0).bind fun r1 =>
 (if (!r1) then
  some true
 else
  (dn p1).bind fun r13 =>
  some (!r13)).bind fun s21j1 =>
 if s21j1 then
  some ((ba.mk (az.mk 0 ([])) (az.mk 0 ([]))),1)
 else
  if (p1.aj==0) then
   some ((ba.mk (az.mk 0 ([])) (az.mk 0 ([]))),15)
  else
   (if decide (p1.aj<0) then
    (ur p0).bind fun r10 =>
    (ur p1).bind fun r11 =>
    some (r10.aj,r10.aa,r11.aj,r11.aa)
   else
    some (p0.aj,p0.aa,p1.aj,p1.aa)).bind fun q=>match q with
   | (r2_0j2,r2_1j2,r3_0j2,r3_1j2) =>
    (oY (az.mk r2_0j2 r2_1j2) (az.mk r3_0j2 r3_1j2)).bind fun r6 =>
    (uo (az.mk r2_0j2 r2_1j2) r6.1).bind fun r7 =>
    (uo (az.mk r3_0j2 r3_1j2) r6.1).bind fun r8 =>
    some ((ba.mk r7.1 r8.1),0)
def CG (p0:Int) (p1:Int):Option (ba×Int) :=
 (qV p0).bind fun r1 =>
 (qV p1).bind fun r2 =>
 (xl r1 r2).bind fun r3 =>
 some (r3.1,r3.2)
def uv (p0:Int):Option (ba) :=
 (CG p0 1).bind fun r1 =>
 some r1.1
def gI (p0:Int) (p1:Int):Option (ew) :=
 (uv p0).bind fun r1 =>
 (uv p1).bind fun r2 =>
 some (ew.mk r1 r2)
def mM (p0:az):(Int)→Option ((Int)⊕((Unit)⊕(Bool)))
 | s12a =>
  if decide (s12a<(p0.aa.length:Int)) then
   (P.idx p0.aa s12a).bind fun x7 =>
   if decide (x7<0) then
    some (.inr (.inr false))
   else
    if decide (x7>1048575) then
     some (.inr (.inr false))
    else
     some (.inl (IntKind.i64.wrap (s12a+1)))
  else
   some (.inr (.inl ()))
def er (p0:az):Option (Bool) :=
 (a8 (mM p0) 0).bind fun q=>match q with
 | (.inl _) =>
  if ((p0.aa.length:Int)==0) then
   some (p0.aj==0)
  else
   if (p0.aj==1) then
    (P.idx p0.aa (IntKind.i64.wrap ((p0.aa.length:Int)-1))).bind fun x12 =>
    some (x12 != 0)
   else
    if (p0.aj==(-1)) then
     (P.idx p0.aa (IntKind.i64.wrap ((p0.aa.length:Int)-1))).bind fun x14 =>
     some (x14 != 0)
    else
     some false
 | (.inr ra) =>
  some ra
def fJ (p0:Bool) (p1:az):Option (az×Int) :=
 if (!p0) then
  some ((az.mk 0 ([])),1)
 else
  some (p1,0)
def ja (p0:Int):Option (Bool) :=
 some (p0 != p0)
def fL (p0:Int) (p1:Int):Option (Int) :=
 (ja p0).bind fun r1 =>
 (ja p1).bind fun r2 =>
 if r1 then
  if r2 then
   some 0
  else
   some (-1)
 else
  if r2 then
   some 1
  else
   if decide (p0<p1) then
    some (-1)
   else
    if decide (p0>p1) then
     some 1
    else
     some 0
def ku (p0:(List Int)) (p1:(List Int)):(Int)→Option ((Int)⊕((Unit)⊕(Int)))
 | s5a =>
  if decide (s5a≥0) then
   (P.idx p0 s5a).bind fun x10 =>
   (P.idx p1 s5a).bind fun x11 =>
   if (x10 != x11) then
    (fL x10 x11).bind fun r13 =>
    some (.inr (.inr r13))
   else
    some (.inl (IntKind.i64.wrap (s5a-1)))
  else
   some (.inr (.inl ()))
def fc (p0:(List Int)) (p1:(List Int)):Option (Int) :=
 if ((p0.length:Int) != (p1.length:Int)) then
  (fL (p0.length:Int) (p1.length:Int)).bind fun r2 =>
  some r2
 else
  (a8 (ku p0 p1) (IntKind.i64.wrap ((p0.length:Int)-1))).bind fun q=>match q with
  | (.inl _) =>
   some 0
  | (.inr ra) =>
   some ra
def j6 (p0:(List Int)):(Int)→Option ((Int)⊕((Int)))
 | s3a =>
  if decide (s3a>0) then
   (P.idx p0 (IntKind.i64.wrap (s3a-1))).bind fun x6 =>
   if (x6==0) then
    some (.inl (IntKind.i64.wrap (s3a-1)))
   else
    some (.inr s3a)
  else
   some (.inr s3a)
def eD (p0:(List Int)):Option ((List Int)) :=
 (a8 (j6 p0) (p0.length:Int)).bind fun s3ax =>
 (CV p0 0 s3ax).bind fun x8 =>
 some x8
def mO (p0:(List Int)) (p1:Int):(Int×Int×(List Int))→Option ((Int×Int×(List Int))⊕((Int×(List Int))))
 | (s7a,s8a,l6a) =>
  if decide (s8a≥0) then
   (D6 .i64 s7a 20).bind fun x15 =>
   (P.idx p0 s8a).bind fun x17 =>
   (xV .i64 (nN .or .i64 x15 x17) p1).bind fun x18 =>
   (P.idx l6a s8a).bind fun x20 =>
   (tk .i64 (nN .or .i64 x15 x17) p1).bind fun x22 =>
   some (.inl (x22,IntKind.i64.wrap (s8a-1),(l6a.set (s8a).toNat x18)))
  else
   some (.inr (s7a,l6a))
def j5 (p0:(List Int)) (p1:Int):Option ((List Int)×Int) :=
 (LG 8 (p0.length:Int) (p0.length:Int) 0).bind fun x1 =>
 (a8 (mO p0 p1) (0,IntKind.i64.wrap ((p0.length:Int)-1),x1)).bind fun q=>match q with
 | (s7ax,l6ax) =>
  (eD l6ax).bind fun r24 =>
  some (r24,s7ax)
def qw (p1:(List Int)) (s20a:Int) (x22:Int):(Int×Int×(List Int))→Option ((Int×Int×(List Int))⊕((Int×(List Int))))
 | (s8c,s27c,l5c) =>
  if decide (s27c<(p1.length:Int)) then
   (P.idx p1 s27c).bind fun x31 =>
   (P.idx l5c (IntKind.i64.wrap (s20a+s27c))).bind fun x32 =>
   (yC .i64 (IntKind.i64.wrap ((IntKind.i64.wrap (x32+(IntKind.i64.wrap (x22*x31))))+s8c)) 20).bind fun x33 =>
   some (.inl (x33,IntKind.i64.wrap (s27c+1),(l5c.set (IntKind.i64.wrap (s20a+s27c)).toNat (nN .and .i64 (IntKind.i64.wrap ((IntKind.i64.wrap (x32+(IntKind.i64.wrap (x22*x31))))+s8c)) 1048575))))
  else
   some (.inr (s8c,l5c))
def qv (p0:(List Int)) (p1:(List Int)):(Int×(List Int))→Option ((Int×(List Int))⊕(((List Int))))
 | (s20a,l5a) =>
  if decide (s20a<(p0.length:Int)) then
   (P.idx p0 s20a).bind fun x22 =>
   (a8 (qw p1 s20a x22) (0,0,l5a)).bind fun q=>match q with
   | (s8cx,l5cx) =>
    (P.idx l5cx (IntKind.i64.wrap (s20a+(p1.length:Int)))).bind fun x36 =>
    some (.inl (IntKind.i64.wrap (s20a+1),(l5cx.set (IntKind.i64.wrap (s20a+(p1.length:Int))).toNat (IntKind.i64.wrap (x36+s8cx)))))
  else
   some (.inr l5a)
def mN (p0:(List Int)) (p1:(List Int)):Option ((List Int)) :=
 (LG 8 (IntKind.i64.wrap ((p0.length:Int)+(p1.length:Int))) (IntKind.i64.wrap ((p0.length:Int)+(p1.length:Int))) 0).bind fun x1 =>
 (a8 (qv p0 p1) (0,x1)).bind fun l5ax =>
 (eD l5ax).bind fun r39 =>
 some r39
def jA (p0:(List Int)) (p1:(List Int)) (p2:Int):(Int×Int×(List Int))→Option ((Int×Int×(List Int))⊕((Int×(List Int))))
 | (s7a,s14a,l0a) =>
  if decide (s14a<((p0).length:Int)) then
   (P.idx l0a s14a).bind fun x11 =>
   (if decide (s14a<(p1.length:Int)) then
    (P.idx p1 s14a).bind fun x17 =>
    some (IntKind.i64.wrap ((IntKind.i64.wrap (x11-s7a))-(IntKind.i64.wrap (p2*x17))))
   else
    some (IntKind.i64.wrap (x11-s7a))).bind fun s9j3 =>
   (yC .i64 s9j3 20).bind fun x14 =>
   some (.inl (IntKind.i64.wrap (0-x14),IntKind.i64.wrap (s14a+1),(l0a.set (s14a).toNat (nN .and .i64 s9j3 1048575))))
  else
   some (.inr (s7a,l0a))
def jB (p1:(List Int)) (l0ax:(List Int)):(Int×Int×(List Int))→Option ((Int×Int×(List Int))⊕(((List Int))))
 | (s10d,s49d,l0d) =>
  if decide (s49d<((l0ax).length:Int)) then
   (P.idx l0d s49d).bind fun x29 =>
   (if decide (s49d<(p1.length:Int)) then
    (P.idx p1 s49d).bind fun x35 =>
    some (IntKind.i64.wrap ((IntKind.i64.wrap (s10d+x29))+x35))
   else
    some (IntKind.i64.wrap (s10d+x29))).bind fun s10j6 =>
   (yC .i64 s10j6 20).bind fun x32 =>
   some (.inl (x32,IntKind.i64.wrap (s49d+1),(l0d.set (s49d).toNat (nN .and .i64 s10j6 1048575))))
  else
   some (.inr l0d)
def nM (p0:(List Int)) (p1:(List Int)) (p2:Int):Option ((List Int)×(Int)) :=
 (a8 (jA p0 p1 p2) (0,0,p0)).bind fun q=>match q with
 | (s7ax,l0ax) =>
  if (s7ax==0) then
   some (l0ax,p2)
  else
   (a8 (jB p1 l0ax) (0,0,l0ax)).bind fun l0dx =>
   some (l0dx,IntKind.i64.wrap (p2-1))
def eW (p0:(List Int)) (p1:(List Int)) (p2:Int):Option ((List Int)×(Int)):=(nM p0 p1 p2).bind fun r=>if r.1.length=p0.length then some r else none
theorem yj {p0:(List Int)} {p1:(List Int)} {p2:Int} {r:(List Int)×(Int)} (h:eW p0 p1 p2=some r):r.1.length=p0.length:=by
 unfold eW at h
 obtain⟨q,hq,h⟩:=ae h
 split at h
 ·cases h;assumption
 ·cases h
def qq (p1:(List Int)):(Int)→Option ((Int)⊕((Int)))
 | s8a =>
  (P.idx p1 (IntKind.i64.wrap ((p1.length:Int)-1))).bind fun x12 =>
  if decide ((IntKind.i64.wrap (x12*s8a))<524288) then
   some (.inl (IntKind.i64.wrap (s8a*2)))
  else
   some (.inr s8a)
def qu (r19:(List Int)) (s13c:Int) (l9c:(List Int)) (x64:Int):(Int×Int)→Option ((Int×Int)⊕((Int)))
 | (s15g,s16g) =>
  (if decide (s15g≥1048576) then
   some true
  else
   if decide (s16g<1048576) then
    (P.idx r19 (IntKind.i64.wrap (((r19).length:Int)-2))).bind fun x83 =>
    (D6 .i64 s16g 20).bind fun x84 =>
    (P.idx l9c (IntKind.i64.wrap ((IntKind.i64.wrap (s13c+((r19).length:Int)))-2))).bind fun x86 =>
    some (decide ((IntKind.i64.wrap (s15g*x83))>(nN .or .i64 x84 x86)))
   else
    some false).bind fun s137j9 =>
  if s137j9 then
   some (.inl (IntKind.i64.wrap (s15g-1),IntKind.i64.wrap (s16g+x64)))
  else
   some (.inr s15g)
def qt (r19:(List Int)):(Int×(List Int)×(List Int))→Option ((Int×(List Int)×(List Int))⊕(((List Int)×(List Int))))
 | (s13c,l9c,l12c) =>
  if decide (s13c≥0) then
   (P.idx l9c (IntKind.i64.wrap (s13c+((r19).length:Int)))).bind fun x60 =>
   (D6 .i64 x60 20).bind fun x61 =>
   (P.idx l9c (IntKind.i64.wrap ((IntKind.i64.wrap (s13c+((r19).length:Int)))-1))).bind fun x63 =>
   (P.idx r19 (IntKind.i64.wrap (((r19).length:Int)-1))).bind fun x64 =>
   (xV .i64 (nN .or .i64 x61 x63) x64).bind fun x65 =>
   (tk .i64 (nN .or .i64 x61 x63) x64).bind fun x67 =>
   (a8 (qu r19 s13c l9c x64) (x65,x67)).bind fun s15gx =>
   (CV l9c s13c (IntKind.i64.wrap ((IntKind.i64.wrap (s13c+((r19).length:Int)))+1))).bind fun x87 =>
   (eW x87 r19 s15gx).bind fun r90 =>
   (P.idx l12c s13c).bind fun x92 =>
   some (.inl (IntKind.i64.wrap (s13c-1),(l9c.take (s13c).toNat++(r90.1++l9c.drop (IntKind.i64.wrap ((IntKind.i64.wrap (s13c+((r19).length:Int)))+1)).toNat)),(l12c.set (s13c).toNat r90.2)))
  else
   some (.inr (l9c,l12c))
def qp (p0:(List Int)) (p1:(List Int)):Option ((List Int)×(List Int)) :=
 (fc p0 p1).bind fun r1 =>
 if decide (r1<0) then
  (bD p0).bind fun r3 =>
  some ([],r3)
 else
  if ((p1.length:Int)==1) then
   (P.idx p1 0).bind fun x5 =>
   (j5 p0 x5).bind fun r6 =>
   (eD ([r6.2])).bind fun r8 =>
   some (r6.1,r8)
  else
   (a8 (qq p1) 1).bind fun s8ax =>
   (mN p0 ([s8ax])).bind fun r15 =>
   (iH 8 r15 [0]).bind fun x16 =>
   (mN p1 ([s8ax])).bind fun r19 =>
   (if (((x16).length:Int)==(p0.length:Int)) then
    (iH 8 x16 [0]).bind fun x98 =>
    some x98
   else
    some x16).bind fun l9j2 =>
   (LG 8 (IntKind.i64.wrap (((l9j2).length:Int)-((r19).length:Int))) (IntKind.i64.wrap (((l9j2).length:Int)-((r19).length:Int))) 0).bind fun x21 =>
   (a8 (qt r19) (IntKind.i64.wrap (((x21).length:Int)-1),l9j2,x21)).bind fun q=>match q with
   | (l9cx,l12cx) =>
    (eD l9cx).bind fun r94 =>
    (j5 r94 s8ax).bind fun r95 =>
    (eD l12cx).bind fun r96 =>
    some (r96,r95.1)
def fv (p0:Int) (p1:(List Int)):Option (az) :=
 (eD p1).bind fun r1 =>
 if ((r1.length:Int)==0) then
  some (az.mk 0 ([]))
 else
  some (az.mk p0 r1)
def nL:((List Int)×(List Int))→Option (((List Int)×(List Int))⊕(((List Int))))
 | (s6b,s7b) =>
  if decide ((s7b.length:Int)>0) then
   (qp s6b s7b).bind fun r11 =>
   some (.inl (s7b,r11.2))
  else
   some (.inr s6b)
def ql (p0:az) (p1:az):Option (az×Int) :=
 (er p0).bind fun r1 =>
 (if (!r1) then
  some true
 else
  (er p1).bind fun r16 =>
  some (!r16)).bind fun s17j1 =>
 if s17j1 then
  (fJ false (az.mk 0 ([]))).bind fun r5 =>
  some (r5.1,r5.2)
 else
  (bD p0.aa).bind fun r6 =>
  (a8 (nL) (r6,p1.aa)).bind fun s6bx =>
  (bD s6bx).bind fun r12 =>
  (fv 1 r12).bind fun r13 =>
  (fJ true r13).bind fun r14 =>
  some (r14.1,r14.2)
def qn (p0:az):(Int×Int)→Option ((Int×Int)⊕((Int)⊕(Int×Bool)))
 | (s4b,s19b) =>
  if decide (s19b<(p0.aa.length:Int)) then
   (P.idx p0.aa s19b).bind fun x13 =>
   (if (s19b==3) then
    some (decide (x13>8))
   else
    some false).bind fun s29j4 =>
   if s29j4 then
    some (.inr (.inr (0,false)))
   else
    (D6 .u64 (IntKind.u64.wrap x13) (IntKind.i64.wrap (20*s19b))).bind fun x16 =>
    some (.inl (nN .or .u64 s4b x16,IntKind.i64.wrap (s19b+1)))
  else
   some (.inr (.inl s4b))
def qm (p0:az):Option (Int×Bool) :=
 (er p0).bind fun r1 =>
 (if (!r1) then
  some true
 else
  some (decide ((p0.aa.length:Int)>4))).bind fun s15j1 =>
 if s15j1 then
  some (0,false)
 else
  (a8 (qn p0) (0,0)).bind fun q=>match q with
  | (.inl s4bx) =>
   (if decide (p0.aj<0) then
    some (decide (s4bx≤9223372036854775808))
   else
    some false).bind fun s38j5 =>
   if s38j5 then
    some (IntKind.i64.wrap (IntKind.u64.wrap (0-s4bx)),true)
   else
    if decide (p0.aj≥0) then
     if decide (s4bx<9223372036854775808) then
      some (IntKind.i64.wrap s4bx,true)
     else
      some (0,false)
    else
     some (0,false)
  | (.inr rb) =>
   some rb
def nZ (p0:az):Option (Bool) :=
 (qm p0).bind fun r1 =>
 if r1.2 then
  some (r1.1==1)
 else
  some false
def eR (p0:ba):Option (Bool) :=
 (er p0.cz).bind fun r1 =>
 (if (!r1) then
  some true
 else
  (er p0.cw).bind fun r8 =>
  if (!r8) then
   some true
  else
   some (p0.cw.aj != 1)).bind fun s20j1 =>
 if s20j1 then
  some false
 else
  (ql p0.cz p0.cw).bind fun r4 =>
  if (r4.2==0) then
   (nZ r4.1).bind fun r6 =>
   some r6
  else
   some false
def qo (p0:az) (p1:az):Option (az×Int) :=
 (er p0).bind fun r1 =>
 (if (!r1) then
  some true
 else
  (er p1).bind fun r10 =>
  some (!r10)).bind fun s13j1 =>
 if s13j1 then
  (fJ false (az.mk 0 ([]))).bind fun r5 =>
  some (r5.1,r5.2)
 else
  (mN p0.aa p1.aa).bind fun r6 =>
  (fv (IntKind.i64.wrap (p0.aj*p1.aj)) r6).bind fun r7 =>
  (fJ true r7).bind fun r8 =>
  some (r8.1,r8.2)
def fX (p0:az) (p1:az):Option (az) :=
 (qo p0 p1).bind fun r1 =>
 some r1.1
def iO (p0:az) (p1:az):Option (Int) :=
 (er p0).bind fun r1 =>
 (if (!r1) then
  some true
 else
  (er p1).bind fun r8 =>
  some (!r8)).bind fun s12j1 =>
 if s12j1 then
  some 0
 else
  if (p0.aj != p1.aj) then
   (fL p0.aj p1.aj).bind fun r5 =>
   some r5
  else
   (fc p0.aa p1.aa).bind fun r6 =>
   some (IntKind.i64.wrap (p0.aj*r6))
def eZ (p0:ba) (p1:ba):Option (Int) :=
 (eR p0).bind fun r1 =>
 (if (!r1) then
  some true
 else
  (eR p1).bind fun r8 =>
  some (!r8)).bind fun s12j1 =>
 if s12j1 then
  some 0
 else
  (fX p0.cz p1.cw).bind fun r4 =>
  (fX p1.cz p0.cw).bind fun r5 =>
  (iO r4 r5).bind fun r6 =>
  some r6
def fY (p0:ew):Option (Bool) :=
 (eR p0.bB).bind fun r1 =>
 if r1 then
  (eR p0.aV).bind fun r3 =>
  if r3 then
   (eZ p0.bB p0.aV).bind fun r5 =>
   some (decide (r5≤0))
  else
   some false
 else
  some false
def ic (p0:aG):Option (Bool) :=
 (fY p0.bL).bind fun r1 =>
 some (!r1)
def ia (p0:Int):Option (Int) :=
 (if decide (p0≥4294967296) then
  (yC .u64 p0 32).bind fun x14 =>
  some (x14,32)
 else
  some (p0,0)).bind fun q=>match q with
 | (s0j1,s2j1) =>
  (if decide (s0j1≥65536) then
   (yC .u64 s0j1 16).bind fun x11 =>
   some (x11,IntKind.i64.wrap (s2j1+16))
  else
   some (s0j1,s2j1)).bind fun q=>match q with
  | (s0j2,s2j2) =>
   if decide (s0j2≥256) then
    (yC .u64 s0j2 8).bind fun x4 =>
    (P.UX W5 (IntKind.u8.wrap x4)).bind fun x6 =>
    some (IntKind.i64.wrap ((IntKind.i64.wrap (s2j2+8))+(IntKind.i64.wrap x6)))
   else
    (P.UX W5 (IntKind.u8.wrap s0j2)).bind fun x8 =>
    some (IntKind.i64.wrap (s2j2+(IntKind.i64.wrap x8)))
def jt (p0:Int):Option (Int) :=
 (ia p0).bind fun r1 =>
 some r1
def sI (p0:Int) (p1:Int):Option (Bool) :=
 (ja p0).bind fun r1 =>
 if r1 then
  (ja p1).bind fun r3 =>
  if (!r3) then
   some true
  else
   some (decide (p0<p1))
 else
  some (decide (p0<p1))
def fT (p1:Int):(Int×(List Int))→Option ((Int×(List Int))⊕(((List Int))))
 | (s7e,l0e) =>
  (if decide (s7e>p1) then
   (P.idx l0e s7e).bind fun x47 =>
   (P.idx l0e (IntKind.i64.wrap (s7e-1))).bind fun x48 =>
   (sI x47 x48).bind fun r49 =>
   some r49
  else
   some false).bind fun s30j7 =>
  if s30j7 then
   (P.idx l0e (IntKind.i64.wrap (s7e-1))).bind fun x41 =>
   (P.idx l0e s7e).bind fun x42 =>
   (P.idx (l0e.set (s7e).toNat x41) (IntKind.i64.wrap (s7e-1))).bind fun x44 =>
   some (.inl (IntKind.i64.wrap (s7e-1),((l0e.set (s7e).toNat x41).set (IntKind.i64.wrap (s7e-1)).toNat x42)))
  else
   some (.inr l0e)
def fS (p1:Int) (p2:Int):(Int×(List Int))→Option ((Int×(List Int))⊕(((List Int))))
 | (s6a,l0a) =>
  if decide (s6a<p2) then
   (a8 (fT p1) (s6a,l0a)).bind fun l0ex =>
   some (.inl (IntKind.i64.wrap (s6a+1),l0ex))
  else
   some (.inr l0a)
def gi (p0:(List Int)) (p1:Int) (p2:Int):Option ((List Int)×(Unit)) :=
 (a8 (fS p1 p2) (IntKind.i64.wrap (p1+1),p0)).bind fun l0ax =>
 some (l0ax,())
def bY (p0:(List Int)) (p1:Int) (p2:Int):Option ((List Int)×(Unit)):=(gi p0 p1 p2).bind fun r=>if r.1.length=p0.length then some r else none
theorem kg {p0:(List Int)} {p1:Int} {p2:Int} {r:(List Int)×(Unit)} (h:bY p0 p1 p2=some r):r.1.length=p0.length:=by
 unfold bY at h
 obtain⟨q,hq,h⟩:=ae h
 split at h
 ·cases h;assumption
 ·cases h
def iV (p0:(List Int)) (p1:Int) (p2:Int) (p3:Int):(Unit)→Option ((Unit)⊕(((List Int)×(Unit))))
 | _ =>
  if decide ((IntKind.i64.wrap (p2-p1))≤12) then
   (bY p0 p1 p2).bind fun r9 =>
   some (.inr (r9.1,()))
  else
   if (p3==0) then
    none
   else
    none
def jj (p0:(List Int)) (p1:Int) (p2:Int) (p3:Int):Option ((List Int)×(Unit)) :=
 (a8 (iV p0 p1 p2 p3) ()).bind fun ra =>
 some ra
def cA (p0:(List Int)) (p1:Int) (p2:Int) (p3:Int):Option ((List Int)×(Unit)):=(jj p0 p1 p2 p3).bind fun r=>if r.1.length=p0.length then some r else none
theorem nf {p0:(List Int)} {p1:Int} {p2:Int} {p3:Int} {r:(List Int)×(Unit)} (h:cA p0 p1 p2 p3=some r):r.1.length=p0.length:=by
 unfold cA at h
 obtain⟨q,hq,h⟩:=ae h
 split at h
 ·cases h;assumption
 ·cases h
def rW (p0:(List Int)):Option ((List Int)×(Unit)) :=
 (jt (IntKind.u64.wrap ((p0).length:Int))).bind fun r1 =>
 (cA p0 0 ((p0).length:Int) r1).bind fun r3 =>
 some (r3.1,())
def pB (p0:(List Int)):Option ((List Int)×(Unit)):=(rW p0).bind fun r=>if r.1.length=p0.length then some r else none
def jQ (p0:(List Int)):Option ((List Int)×Unit):=if p0.length<4611686018427387904 then some (fU p0,()) else none
theorem Cc {p0:(List Int)} {r:(List Int)×Unit} (h:jQ p0=some r):r.1.length=p0.length:=by
 unfold jQ at h
 split at h
 ·cases h;exact fm p0
 ·cases h
def iU (p0:(List Int)):Option (List Int):=Oc p0
def fI (p0:(List Int)):Option (Bool) :=
 (bD p0).bind fun r1 =>
 (jQ r1).bind fun r3 =>
 (iU r3.1).bind fun r6 =>
 some (decide (((r6).length:Int)<(p0.length:Int)))
def dS (p0:aC) (p1:Int):Option (Bool) :=
 some (p0.cg==p1)
def kW (p0:av) (p1:Int):Option (Bool) :=
 if decide (p1≥0) then
  some (decide (p1<(p0.ag.length:Int)))
 else
  some false
def gg (p0:av) (p1:(List Int)):(Int)→Option ((Int)⊕((Unit)⊕(Bool)))
 | s18b =>
  if decide (s18b<(p1.length:Int)) then
   (P.idx p1 s18b).bind fun x15 =>
   (kW p0 x15).bind fun r16 =>
   if (!r16) then
    some (.inr (.inr false))
   else
    if decide (s18b>0) then
     (P.idx p1 (IntKind.i64.wrap (s18b-1))).bind fun x19 =>
     (P.idx p0.ag x19).bind fun x20 =>
     if (x20.aY != x15) then
      if (x20.aQ != x15) then
       some (.inr (.inr false))
      else
       some (.inl (IntKind.i64.wrap (s18b+1)))
     else
      some (.inl (IntKind.i64.wrap (s18b+1)))
    else
     some (.inl (IntKind.i64.wrap (s18b+1)))
  else
   some (.inr (.inl ()))
def gW (p0:av) (p1:(List Int)):Option (Bool) :=
 (dq p0).bind fun r1 =>
 (if (!r1) then
  some true
 else
  some ((p1.length:Int)==0)).bind fun s15j1 =>
 if s15j1 then
  some false
 else
  (a8 (gg p0 p1) 0).bind fun q=>match q with
  | (.inl _) =>
   some true
  | (.inr rb) =>
   some rb
def fj (p0:ak):Option (Bool) :=
 some (p0.aY==(-1))
def gM (p0:av) (p1:Int) (p2:ByteArray) (p3:Int) (p4:Int):Option (Bool) :=
 (dq p0).bind fun r1 =>
 (if (!r1) then
  some true
 else
  (eg p1 (IntKind.i64.wrap ((p0.ag.length:Int)-1))).bind fun r8 =>
  some (!r8)).bind fun s23j1 =>
 if s23j1 then
  some false
 else
  (P.idx p0.ag p1).bind fun x4 =>
  if (x4.bE.toList==p2.toList) then
   if (x4.ay==p3) then
    some (x4.aA==p4)
   else
    some false
  else
   some false
def jR (p0:av) (p1:(List Int)) (p2:Int) (p3:Int) (p4:ByteArray) (p5:Int) (p6:Int):Option (Bool) :=
 (gW p0 p1).bind fun r1 =>
 if (!r1) then
  some false
 else
  (P.idx p1 0).bind fun x3 =>
  (P.idx p0.ag x3).bind fun x4 =>
  (P.idx p1 (IntKind.i64.wrap ((p1.length:Int)-1))).bind fun x5 =>
  if (x4.ay==p2) then
   if (x4.aA==p3) then
    (P.idx p0.ag x5).bind fun x8 =>
    (fj x8).bind fun r9 =>
    if r9 then
     (gM p0 x5 p4 p5 p6).bind fun r11 =>
     some r11
    else
     some false
   else
    some false
  else
   some false
def dZ (p0:jM) (p1:aC):Option (Bool) :=
 if decide ((p1.bo.length:Int)>0) then
  (P.idx p1.bo 0).bind fun x2 =>
  if (x2==p0.xZ) then
   (P.idx p1.bo (IntKind.i64.wrap ((p1.bo.length:Int)-1))).bind fun x4 =>
   if (x4==p1.cg) then
    (jR p0.Uz p1.bo p0.tT p0.tS p1.bE p1.ay p1.aA).bind fun r6 =>
    some r6
   else
    some false
  else
   some false
 else
  some false
def tM:(Int×(List Int))→Option ((Int×(List Int))⊕(((List Int))))
 | (s4b,l5b) =>
  if decide (s4b>0) then
   (iH 8 l5b [IntKind.i64.wrap (nN .and .u64 s4b 1048575)]).bind fun x9 =>
   (yC .u64 s4b 20).bind fun x11 =>
   some (.inl (x11,x9))
  else
   some (.inr l5b)
def sC (p0:Int):Option (az) :=
 (if decide (p0<0) then
  some ((-1),IntKind.u64.wrap (0-(IntKind.u64.wrap p0)))
 else
  some (1,IntKind.u64.wrap p0)).bind fun q=>match q with
 | (s3j1,s4j1) =>
  (a8 (tM) (s4j1,[])).bind fun l5bx =>
  (fv s3j1 l5bx).bind fun r13 =>
  some r13
def nY (p0:Int):Option (ba) :=
 (sC p0).bind fun r1 =>
 (sC 1).bind fun r2 =>
 some (ba.mk r1 r2)
def kU (p0:ew) (p1:ba):Option (Bool) :=
 (fY p0).bind fun r1 =>
 if r1 then
  (eR p1).bind fun r3 =>
  if r3 then
   (eZ p0.bB p1).bind fun r5 =>
   if decide (r5≤0) then
    (eZ p1 p0.aV).bind fun r7 =>
    some (decide (r7≤0))
   else
    some false
  else
   some false
 else
  some false
def dT (p0:aG) (p1:Int) (p2:ba):Option (Bool) :=
 if (p0.cg==p1) then
  (kU p0.bL p2).bind fun r2 =>
  some (!r2)
 else
  some false
def cc (p0:(List aC)) (p1c0:Int):(Int)→Option ((Int)⊕((Unit)⊕(Int)))
 | s8a =>
  if decide (s8a<(p0.length:Int)) then
   (P.idx p0 s8a).bind fun x7 =>
   (dS x7 p1c0).bind fun r8 =>
   if r8 then
    some (.inr (.inr s8a))
   else
    some (.inl (IntKind.i64.wrap (s8a+1)))
  else
   some (.inr (.inl ()))
def bg (p0:(List aC)) (p1c0:Int):Option (Int) :=
 (a8 (cc p0 p1c0) 0).bind fun q=>match q with
 | (.inl _) =>
  some (-1)
 | (.inr ra) =>
  some ra
def cm (p0:(List aG)) (p1c0:Int) (p1c1:ba):(Int)→Option ((Int)⊕((Unit)⊕(Int)))
 | s8a =>
  if decide (s8a<(p0.length:Int)) then
   (P.idx p0 s8a).bind fun x7 =>
   (dT x7 p1c0 p1c1).bind fun r8 =>
   if r8 then
    some (.inr (.inr s8a))
   else
    some (.inl (IntKind.i64.wrap (s8a+1)))
  else
   some (.inr (.inl ()))
def bK (p0:(List aG)) (p1c0:Int) (p1c1:ba):Option (Int) :=
 (a8 (cm p0 p1c0 p1c1) 0).bind fun q=>match q with
 | (.inl _) =>
  some (-1)
 | (.inr ra) =>
  some ra
def bf (p0:(List aG)) (p1c0:Int) (p1c1:ba):Option (Bool) :=
 (bK p0 p1c0 p1c1).bind fun r1 =>
 some (decide (r1≥0))
def dQ (p0:jM) (p1:Int) (p2:(List aC)) (p3:(List aG)):Option (Int) :=
 (bg p2 p1).bind fun r1 =>
 if decide (r1<0) then
  some 0
 else
  (P.idx p2 r1).bind fun x3 =>
  (dZ p0 x3).bind fun r4 =>
  if (!r4) then
   some 1
  else
   (nY x3.ay).bind fun r6 =>
   (bf p3 p1 r6).bind fun r7 =>
   if r7 then
    some 2
   else
    some (-1)
def cQ (p0:(List aG)):(Int)→Option ((Int)⊕((Unit)⊕(Int)))
 | s8a =>
  if decide (s8a<(p0.length:Int)) then
   (P.idx p0 s8a).bind fun x7 =>
   (ic x7).bind fun r8 =>
   if r8 then
    some (.inr (.inr s8a))
   else
    some (.inl (IntKind.i64.wrap (s8a+1)))
  else
   some (.inr (.inl ()))
def ck (p0:(List aG)):Option (Int) :=
 (a8 (cQ p0) 0).bind fun q=>match q with
 | (.inl _) =>
  some (-1)
 | (.inr ra) =>
  some ra
def aF (p0:(List aG)):Option (Bool) :=
 (ck p0).bind fun r1 =>
 some (decide (r1≥0))
def dY (p0:av) (p1:Int) (p2:Int) (p3:Int) (p4:(List Int)) (p5:(List aC)) (p6:(List aG)):(Int×(List bn))→Option ((Int×(List bn))⊕(((List bn))))
 | (s49b,l17b) =>
  if decide (s49b<(p4.length:Int)) then
   (P.idx p4 s49b).bind fun x16 =>
   (dQ (jM.mk p0 p1 p2 p3) x16 p5 p6).bind fun r17 =>
   if (r17 != (-1)) then
    (iH 16 l17b [(bn.mk x16 r17)]).bind fun x19 =>
    some (.inl (IntKind.i64.wrap (s49b+1),x19))
   else
    some (.inl (IntKind.i64.wrap (s49b+1),l17b))
  else
   some (.inr l17b)
def cY (p0:av) (p1:Int) (p2:Int) (p3:Int) (p4:(List Int)) (p5:(List aC)) (p6:(List aG)):Option ((List bn)×Int) :=
 (dq p0).bind fun r1 =>
 (if (!r1) then
  some true
 else
  if decide (p1<0) then
   some true
  else
   some (decide (p1≥(p0.ag.length:Int)))).bind fun s21j1 =>
 if s21j1 then
  some ([],1)
 else
  (aF p6).bind fun r4 =>
  if r4 then
   some ([],1)
  else
   (fI p4).bind fun r6 =>
   if r6 then
    some ([],5)
   else
    (a8 (dY p0 p1 p2 p3 p4 p5 p6) (0,[])).bind fun l17bx =>
    some (l17bx,0)
def mn (p0:(List bn)) (p1:(List bn)):(Int)→Option ((Int)⊕((Unit)⊕(Bool)))
 | s5a =>
  if decide (s5a<(p0.length:Int)) then
   (P.idx p0 s5a).bind fun x8 =>
   (P.idx p1 s5a).bind fun x9 =>
   if (!((x8.cg==x9.cg)&&(x8.kz==x9.kz))) then
    some (.inr (.inr false))
   else
    some (.inl (IntKind.i64.wrap (s5a+1)))
  else
   some (.inr (.inl ()))
def ib (p0:(List bn)) (p1:(List bn)):Option (Bool) :=
 if ((p0.length:Int) != (p1.length:Int)) then
  some false
 else
  (a8 (mn p0 p1) 0).bind fun q=>match q with
  | (.inl _) =>
   some true
  | (.inr ra) =>
   some ra
def jq (p0:av) (p1:(List Int)) (p2:Int) (p3:(List aG)) (p4:(List bn)):Option (Bool) :=
 (cY p0 4 60 24 p1 ([(aC.mk 1 ([4,3,1]) (ByteArray.mk #[98]) p2 8)]) p3).bind fun r2 =>
 if (r2.2==0) then
  (ib r2.1 p4).bind fun r4 =>
  some r4
 else
  some false
def strconv_Itoa (p0:Int):Option ByteArray:=Xh p0
def uD (p0:(List Int)):Option ByteArray:=OK p0
def kc (p0:(List Int)):Option (ByteArray) :=
 (uD p0).bind fun r1 =>
 some r1
def ka (p0:(List ak)):Option (List ak):=if p0.length≤maxLen then some p0 else none
def lF (p0:av) (p1:ak):Option (av×Int×Int) :=
 (dA p0.ag).bind fun r1 =>
 (ka r1).bind fun r2 =>
 (iH 48 r2 [p1]).bind fun x3 =>
 some ((av.mk x3),(p0.ag.length:Int),0)
def jT (p0:av) (p1:ByteArray) (p2:Int) (p3:Int):Option (av×Int×Int) :=
 (dq p0).bind fun r1 =>
 (if (!r1) then
  some true
 else
  (iY (ak.mk p1 p2 p3 (-1) (-1))).bind fun r7 =>
  some (!r7)).bind fun s16j1 =>
 if s16j1 then
  some ((av.mk ([])),(-1),1)
 else
  if decide ((p0.ag.length:Int)≥2000) then
   some ((av.mk ([])),(-1),6)
  else
   (lF p0 (ak.mk p1 p2 p3 (-1) (-1))).bind fun r5 =>
   some (r5.1,r5.2.1,r5.2.2)
def jx (p0:(List Int)) (p1:Int):(Int)→Option ((Int)⊕((Unit)⊕(Bool)))
 | s22b =>
  if decide (s22b<(p0.length:Int)) then
   (P.idx p0 s22b).bind fun x9 =>
   if decide (x9<0) then
    some (.inr (.inr false))
   else
    if decide (x9≥(IntKind.i64.wrap (p1-s22b))) then
     some (.inr (.inr false))
    else
     some (.inl (IntKind.i64.wrap (s22b+1)))
  else
   some (.inr (.inl ()))
def iW (p0:(List Int)) (p1:Int):Option (Bool) :=
 (if decide (p1<0) then
  some true
 else
  if decide (p1>1099511627776) then
   some true
  else
   some (decide ((p0.length:Int)>(if 100<p1 then 100 else p1)))).bind fun s19j1 =>
 if s19j1 then
  some false
 else
  (a8 (jx p0 p1) 0).bind fun q=>match q with
  | (.inl _) =>
   some true
  | (.inr rb) =>
   some rb
def jh (p1:Int) (x26:(List Int)):(Int×(List Int))→Option ((Int×(List Int))⊕(((List Int))))
 | (s53f,l8f) =>
  if decide (s53f<(x26.length:Int)) then
   (P.idx x26 s53f).bind fun x37 =>
   (P.idx l8f s53f).bind fun x38 =>
   (tk .i64 (IntKind.i64.wrap (x38+x37)) (IntKind.i64.wrap (p1-s53f))).bind fun x39 =>
   some (.inl (IntKind.i64.wrap (s53f+1),(l8f.set (s53f).toNat x39)))
  else
   some (.inr l8f)
def nB (p0:(List (List Int))) (p1:Int) (p2:Int):(Int×(List Int))→Option ((Int×(List Int))⊕(((List Int))⊕((List Int)×Int)))
 | (s37b,l8b) =>
  if decide (s37b<(p0.length:Int)) then
   (P.idx p0 s37b).bind fun x26 =>
   (if ((x26.length:Int) != p2) then
    some true
   else
    (iW x26 p1).bind fun r43 =>
    some (!r43)).bind fun s50j5 =>
   if s50j5 then
    some (.inr (.inr ([],1)))
   else
    (a8 (jh p1 x26) (0,l8b)).bind fun l8fx =>
    some (.inl (IntKind.i64.wrap (s37b+1),l8fx))
  else
   some (.inr (.inl l8b))
def lC (p0:(List (List Int))) (p1:Int) (p2:Int):Option ((List Int)×Int) :=
 (if decide (p2<0) then
  some true
 else
  if decide (p2>100) then
   some true
  else
   if decide (p1<p2) then
    some true
   else
    if decide (p1>1099511627776) then
     some true
    else
     some (decide ((p0.length:Int)>400))).bind fun s32j1 =>
 if s32j1 then
  some ([],1)
 else
  (LG 8 p2 p2 0).bind fun x3 =>
  (a8 (nB p0 p1 p2) (0,x3)).bind fun q=>match q with
  | (.inl l8bx) =>
   some (l8bx,0)
  | (.inr rb) =>
   some rb
def jw (p0:(List Int)):Option (List Int):=AB p0
def b8 (p0:(List Int)):Option (List Int):=xn p0
def iX (p0:(List Int)):Option (Bool) :=
 (jw p0).bind fun r1 =>
 (b8 r1).bind fun r2 =>
 (iU r2).bind fun r4 =>
 some (decide (((r4).length:Int)<(p0.length:Int)))
def kV (p0:av) (p1:(List Int)) (p2:(List (List Int))) (p3:(List Int)):(Int)→Option ((Int)⊕((Unit)⊕((List Int)×Int)))
 | s47b =>
  if decide (s47b<(p1.length:Int)) then
   (P.idx p1 s47b).bind fun x16 =>
   (P.idx p2 s47b).bind fun x17 =>
   (kc x17).bind fun r18 =>
   (P.idx p3 s47b).bind fun x19 =>
   (gM p0 x16 r18 0 x19).bind fun r20 =>
   if (!r20) then
    some (.inr (.inr ([],22)))
   else
    some (.inl (IntKind.i64.wrap (s47b+1)))
  else
   some (.inr (.inl ()))
def kb (p0:av) (p1:(List Int)) (p2:(List (List Int))) (p3:(List Int)) (p4:Int) (p5:Int):Option ((List Int)×Int) :=
 (lC p2 p4 p5).bind fun r1 =>
 if (r1.2 != 0) then
  some ([],r1.2)
 else
  (if ((p1.length:Int) != (p2.length:Int)) then
   some true
  else
   some ((p3.length:Int) != (p2.length:Int))).bind fun s29j1 =>
  if s29j1 then
   some ([],2)
  else
   (iX p1).bind fun r5 =>
   if r5 then
    some ([],5)
   else
    (a8 (kV p0 p1 p2 p3) 0).bind fun q=>match q with
    | (.inl _) =>
     some (r1.1,0)
    | (.inr rb) =>
     some rb
def xp (l7a:(List Int)):(Int×Int)→Option ((Int×Int)⊕((Int×Int)))
 | (s9c,s10c) =>
  if decide (s10c<((l7a).length:Int)) then
   (P.idx l7a s10c).bind fun x26 =>
   if decide (x26≤s9c) then
    some (.inl (IntKind.i64.wrap (s9c+1),IntKind.i64.wrap (s10c+1)))
   else
    some (.inr (s9c,s10c))
  else
   some (.inr (s9c,s10c))
def xo (p0:(List Int)):(Int×(List Int)×(List Int))→Option ((Int×(List Int)×(List Int))⊕(((List Int))))
 | (s20a,l6a,l7a) =>
  if decide (s20a<(p0.length:Int)) then
   (P.idx p0 s20a).bind fun x20 =>
   (a8 (xp l7a) (x20,0)).bind fun q=>match q with
   | (s9cx,s10cx) =>
    (iH 8 l6a [s9cx]).bind fun x28 =>
    (Wg 8 l7a s10cx [s9cx]).bind fun x30 =>
    some (.inl (IntKind.i64.wrap (s20a+1),x28,x30))
  else
   some (.inr l6a)
def nF (p0:(List Int)) (p1:Int):Option ((List Int)×Int) :=
 (iW p0 p1).bind fun r1 =>
 if (!r1) then
  some ([],1)
 else
  (LG 8 0 (p0.length:Int) 0).bind fun x3 =>
  (a8 (xo p0) (0,x3,[])).bind fun l6ax =>
  some (l6ax,0)
def nK (p4:(List Int)) (r5:(List Int)×Int):(Int×(List Int))→Option ((Int×(List Int))⊕(((List Int))))
 | (s46a,l18a) =>
  if decide (s46a<(r5.1.length:Int)) then
   (P.idx r5.1 s46a).bind fun x13 =>
   (P.idx p4 x13).bind fun x14 =>
   (iH 8 l18a [x14]).bind fun x15 =>
   some (.inl (IntKind.i64.wrap (s46a+1),x15))
  else
   some (.inr l18a)
def iN (p0:av) (p1:(List Int)) (p2:(List (List Int))) (p3:(List Int)) (p4:(List Int)) (p5:Int):Option ((List Int)×Int) :=
 (kb p0 p1 p2 p3 (p4.length:Int) p5).bind fun r1 =>
 if (r1.2 != 0) then
  some ([],r1.2)
 else
  (fI p4).bind fun r3 =>
  if r3 then
   some ([],5)
  else
   (nF r1.1 (p4.length:Int)).bind fun r5 =>
   (a8 (nK p4 r5) (0,[])).bind fun l18ax =>
   some (l18ax,0)
def lr:Option (Bool) :=
 (gV (av.mk ([])) ([ByteArray.mk #[97],ByteArray.mk #[98],ByteArray.mk #[99]]) ([30,20,10]) ([7,8,9])).bind fun r2 =>
 (if (r2.2.2.2 != 0) then
  some true
 else
  if (r2.2.1 != 4) then
   some true
  else
   (fR r2.2.2.1 ([0,1,2])).bind fun r35 =>
   some (!r35)).bind fun s37j1 =>
 if s37j1 then
  some false
 else
  (gI 19 21).bind fun r5 =>
  (gI 21 22).bind fun r6 =>
  (jq r2.1 ([1]) 20 ([(aG.mk 1 r5)]) ([])).bind fun r8 =>
  (if r8 then
   (jq r2.1 ([1,2]) 20 ([]) ([(bn.mk 2 0)])).bind fun r28 =>
   if r28 then
    (jq r2.1 ([1]) 21 ([]) ([(bn.mk 1 1)])).bind fun r31 =>
    some r31
   else
    some false
  else
   some false).bind fun s7j2 =>
  (jq r2.1 ([1]) 20 ([(aG.mk 1 r5),(aG.mk 1 r6)]) ([(bn.mk 1 2)])).bind fun r11 =>
  (cY r2.1 4 60 24 ([1,1]) ([]) ([])).bind fun r13 =>
  (kc ([2,0])).bind fun r15 =>
  (jT r2.1 r15 0 5).bind fun r16 =>
  (iN r16.1 ([r16.2.1]) ([[2,0]]) ([5]) r2.2.2.1 2).bind fun r18 =>
  if s7j2 then
   if r11 then
    if (r13.2==5) then
     if (r16.2.2==0) then
      if (r18.2==0) then
       (fR r18.1 ([2,0])).bind fun r25 =>
       some r25
      else
       some false
     else
      some false
    else
     some false
   else
    some false
  else
   some false
def qY (p0:av) (p1:Int):(Int)→Option ((Int)⊕((Unit)⊕(Bool)))
 | s5a =>
  (if decide (s5a<(p0.ag.length:Int)) then
   some (decide (s5a<p1))
  else
   some false).bind fun s15j3 =>
  if s15j3 then
   (P.idx p0.ag s5a).bind fun x9 =>
   if decide ((x9.bE.size:Int)>100) then
    some (.inr (.inr false))
   else
    some (.inl (IntKind.i64.wrap (s5a+1)))
  else
   some (.inr (.inl ()))
def qX (p0:av) (p1:Int):Option (Bool) :=
 (a8 (qY p0 p1) 0).bind fun q=>match q with
 | (.inl _) =>
  some (decide ((p0.ag.length:Int)≤p1))
 | (.inr ra) =>
  some ra
def pb (p0:ba) (p1:Int):Option (Bool) :=
 if decide ((p0.cz.aa.length:Int)≤p1) then
  some (decide ((p0.cw.aa.length:Int)≤p1))
 else
  some false
def qW (p0:ew) (p1:Int):Option (Bool) :=
 (pb p0.bB p1).bind fun r1 =>
 if r1 then
  (pb p0.aV p1).bind fun r3 =>
  some r3
 else
  some false
def rh (p0:(List aC)):(Int)→Option ((Int)⊕((Unit)⊕(Bool)))
 | s5a =>
  (if decide (s5a<(p0.length:Int)) then
   some (decide (s5a≤14))
  else
   some false).bind fun s14j3 =>
  if s14j3 then
   (P.idx p0 s5a).bind fun x10 =>
   if decide ((x10.bo.length:Int)>14) then
    some (.inr (.inr false))
   else
    if decide ((x10.bE.size:Int)>100) then
     some (.inr (.inr false))
    else
     some (.inl (IntKind.i64.wrap (s5a+1)))
  else
   some (.inr (.inl ()))
def ri (p1:(List aG)):(Int)→Option ((Int)⊕((Unit)⊕(Bool)))
 | s6d =>
  (if decide (s6d<(p1.length:Int)) then
   some (decide (s6d≤14))
  else
   some false).bind fun s40j6 =>
  if s40j6 then
   (P.idx p1 s6d).bind fun x23 =>
   (qW x23.bL 4).bind fun r24 =>
   if (!r24) then
    some (.inr (.inr false))
   else
    some (.inl (IntKind.i64.wrap (s6d+1)))
  else
   some (.inr (.inl ()))
def rf (p0:(List aC)) (p1:(List aG)):Option (Bool) :=
 (a8 (rh p0) 0).bind fun q=>match q with
 | (.inl _) =>
  (a8 (ri p1) 0).bind fun q=>match q with
  | (.inl _) =>
   if decide ((p0.length:Int)≤14) then
    some (decide ((p1.length:Int)≤14))
   else
    some false
  | (.inr rd) =>
   some rd
 | (.inr ra) =>
  some ra
def lA (p0:ak):Option (Bool) :=
 if (p0.aY==(-1)) then
  some (p0.aQ==(-1))
 else
  some false
def qZ (p0:Int) (p1:Int) (p2:Int):Option (Bool) :=
 if decide (p0≥p1) then
  some (decide (p0≤p2))
 else
  some false
def od (p0:ak):Option (Bool) :=
 (lA p0).bind fun r1 =>
 if r1 then
  if decide ((p0.bE.size:Int)≤8000) then
   (qZ p0.ay 0 1099511627776).bind fun r4 =>
   if r4 then
    (qZ p0.aA 0 1099511627776).bind fun r6 =>
    some r6
   else
    some false
  else
   some false
 else
  some false
def kO (p0:av):(Int)→Option ((Int)⊕((Unit)⊕(Bool)))
 | s3a =>
  if decide (s3a<(p0.ag.length:Int)) then
   (P.idx p0.ag s3a).bind fun x20 =>
   (od x20).bind fun r21 =>
   if r21 then
    some (.inl (IntKind.i64.wrap (s3a+1)))
   else
    (if (!(x20.bE.toList==(ByteArray.mk #[]).toList)) then
     some true
    else
     (qZ x20.aY 0 (IntKind.i64.wrap (s3a-1))).bind fun r32 =>
     if (!r32) then
      some true
     else
      (qZ x20.aQ 0 (IntKind.i64.wrap (s3a-1))).bind fun r34 =>
      some (!r34)).bind fun s43j3 =>
    if s43j3 then
     some (.inr (.inr false))
    else
     (P.idx p0.ag x20.aY).bind fun x25 =>
     (P.idx p0.ag x20.aQ).bind fun x26 =>
     if (x20.ay != (IntKind.i64.wrap (x25.ay+x26.ay))) then
      some (.inr (.inr false))
     else
      if (x20.aA != (IntKind.i64.wrap (x25.aA+x26.aA))) then
       some (.inr (.inr false))
      else
       if decide (x20.ay>1125899906842624) then
        some (.inr (.inr false))
       else
        if decide (x20.aA>1125899906842624) then
         some (.inr (.inr false))
        else
         some (.inl (IntKind.i64.wrap (s3a+1)))
  else
   some (.inr (.inl ()))
def j9 (p0:av):Option (Bool) :=
 if decide ((p0.ag.length:Int)>2000) then
  some false
 else
  (a8 (kO p0) 0).bind fun q=>match q with
  | (.inl _) =>
   some true
  | (.inr ra) =>
   some ra
def tD (p0:az) (p1:az):(Int)→Option ((Int)⊕((Unit)⊕(Bool)))
 | s5b =>
  if decide (s5b<(p0.aa.length:Int)) then
   (P.idx p0.aa s5b).bind fun x9 =>
   (P.idx p1.aa s5b).bind fun x10 =>
   if (x9 != x10) then
    some (.inr (.inr false))
   else
    some (.inl (IntKind.i64.wrap (s5b+1)))
  else
   some (.inr (.inl ()))
def xk (p0:az) (p1:az):Option (Bool) :=
 (if (p0.aj != p1.aj) then
  some true
 else
  some ((p0.aa.length:Int) != (p1.aa.length:Int))).bind fun s19j1 =>
 if s19j1 then
  some false
 else
  (a8 (tD p0 p1) 0).bind fun q=>match q with
  | (.inl _) =>
   some true
  | (.inr rb) =>
   some rb
def mh (p0:az) (p1:az):Option (Int) :=
 (dn p0).bind fun r1 =>
 (if (!r1) then
  some true
 else
  (dn p1).bind fun r9 =>
  if (!r9) then
   some true
  else
   (xk p0 p1).bind fun r11 =>
   some r11).bind fun s17j1 =>
 if s17j1 then
  some 0
 else
  if (p0.aj != p1.aj) then
   if decide (p0.aj<p1.aj) then
    some (-1)
   else
    some 1
  else
   (mi p0.aa p1.aa).bind fun r6 =>
   if (r6==(decide (p0.aj>0))) then
    some (-1)
   else
    some 1
def lz (p0:ba):Option (Bool) :=
 (dn p0.cz).bind fun r1 =>
 (if (!r1) then
  some true
 else
  (dn p0.cw).bind fun r8 =>
  if (!r8) then
   some true
  else
   some (decide (p0.cw.aj<1))).bind fun s20j1 =>
 if s20j1 then
  some false
 else
  (oY p0.cz p0.cw).bind fun r4 =>
  (qV 1).bind fun r5 =>
  (mh r4.1 r5).bind fun r6 =>
  some (r6==0)
def uq (p0:az) (p1:az):Option (az×Int) :=
 (dn p0).bind fun r1 =>
 (if (!r1) then
  some true
 else
  (dn p1).bind fun r7 =>
  some (!r7)).bind fun s13j1 =>
 if s13j1 then
  some ((az.mk 0 ([])),1)
 else
  (jg p0.aa p1.aa).bind fun r4 =>
  (fC (IntKind.i64.wrap (p0.aj*p1.aj)) r4).bind fun r5 =>
  some (r5,0)
def mm (p0:ba) (p1:ba):Option (Int) :=
 (lz p0).bind fun r1 =>
 (if (!r1) then
  some true
 else
  (lz p1).bind fun r8 =>
  some (!r8)).bind fun s16j1 =>
 if s16j1 then
  some 0
 else
  (uq p0.cz p1.cw).bind fun r4 =>
  (uq p1.cz p0.cw).bind fun r5 =>
  (mh r4.1 r5.1).bind fun r6 =>
  some r6
def uw (p0:ew):Option (Bool) :=
 (lz p0.bB).bind fun r1 =>
 if r1 then
  (lz p0.aV).bind fun r3 =>
  if r3 then
   (mm p0.bB p0.aV).bind fun r5 =>
   some (decide (r5≤0))
  else
   some false
 else
  some false
def yz (p0:av) (p1:Int):Option (Bool) :=
 if decide (p1≥0) then
  some (decide (p1<(p0.ag.length:Int)))
 else
  some false
def nA (p0:av) (p1:(List Int)):(Int)→Option ((Int)⊕((Unit)⊕(Bool)))
 | s5b =>
  if decide (s5b<(p1.length:Int)) then
   (P.idx p1 s5b).bind fun x15 =>
   (yz p0 x15).bind fun r16 =>
   if (!r16) then
    some (.inr (.inr false))
   else
    if decide (s5b>0) then
     (P.idx p1 (IntKind.i64.wrap (s5b-1))).bind fun x19 =>
     (P.idx p0.ag x19).bind fun x20 =>
     if (x20.aY != x15) then
      if (x20.aQ != x15) then
       some (.inr (.inr false))
      else
       some (.inl (IntKind.i64.wrap (s5b+1)))
     else
      some (.inl (IntKind.i64.wrap (s5b+1)))
    else
     some (.inl (IntKind.i64.wrap (s5b+1)))
  else
   some (.inr (.inl ()))
def lB (p0:av) (p1:(List Int)):Option (Bool) :=
 (j9 p0).bind fun r1 =>
 (if (!r1) then
  some true
 else
  some ((p1.length:Int)==0)).bind fun s14j1 =>
 if s14j1 then
  some false
 else
  (a8 (nA p0 p1) 0).bind fun q=>match q with
  | (.inl _) =>
   some true
  | (.inr rb) =>
   some rb
def HH (p0:ew) (p1:ba):Option (Bool) :=
 (uw p0).bind fun r1 =>
 if r1 then
  (lz p1).bind fun r3 =>
  if r3 then
   (mm p0.bB p1).bind fun r5 =>
   if decide (r5≤0) then
    (mm p1 p0.aV).bind fun r7 =>
    some (decide (r7≤0))
   else
    some false
  else
   some false
 else
  some false
def re (p0:(List ByteArray)) (p1:Int):(Int)→Option ((Int)⊕((Unit)⊕(Bool)))
 | s5a =>
  (if decide (s5a<(p0.length:Int)) then
   some (decide (s5a≤p1))
  else
   some false).bind fun s14j3 =>
  if s14j3 then
   (P.idx p0 s5a).bind fun x11 =>
   if decide ((x11.size:Int)>100) then
    if decide ((x11.size:Int)≤8000) then
     some (.inr (.inr false))
    else
     if decide ((x11.size:Int)>8100) then
      some (.inr (.inr false))
     else
      some (.inl (IntKind.i64.wrap (s5a+1)))
   else
    some (.inl (IntKind.i64.wrap (s5a+1)))
  else
   some (.inr (.inl ()))
def q8 (p0:(List ByteArray)) (p1:Int):Option (Bool) :=
 (a8 (re p0 p1) 0).bind fun q=>match q with
 | (.inl _) =>
  some (decide ((p0.length:Int)≤p1))
 | (.inr ra) =>
  some ra
def qN (p0:fq):Option (Bool) :=
 (q8 p0.aH 12).bind fun r1 =>
 if r1 then
  if decide ((p0.aP.length:Int)≤12) then
   some (decide ((p0.aO.length:Int)≤12))
  else
   some false
 else
  some false
def jN (p0:av) (p1:fq):Option (av×Int×(List Int)×Bool) :=
 (gV p0 p1.aH p1.aP p1.aO).bind fun r1 =>
 if (r1.2.2.2==0) then
  if ((r1.2.2.1.length:Int)==(p1.aH.length:Int)) then
   if ((p1.aP.length:Int)==(p1.aH.length:Int)) then
    some (r1.1,r1.2.1,r1.2.2.1,((p1.aO.length:Int)==(p1.aH.length:Int)))
   else
    some (r1.1,r1.2.1,r1.2.2.1,false)
  else
   some (r1.1,r1.2.1,r1.2.2.1,false)
 else
  some (r1.1,r1.2.1,r1.2.2.1,false)
def eN (p0:av):(Int×(List Bool))→Option ((Int×(List Bool))⊕(((List Bool))))
 | (s6a,l5a) =>
  if decide (s6a<((l5a).length:Int)) then
   (P.idx p0.ag s6a).bind fun x20 =>
   (fj x20).bind fun r21 =>
   if (!r21) then
    (P.idx l5a x20.aY).bind fun x23 =>
    if x23 then
     (P.idx l5a s6a).bind fun x25 =>
     some (.inl (IntKind.i64.wrap (s6a+1),(l5a.set (s6a).toNat true)))
    else
     (P.idx l5a x20.aQ).bind fun x27 =>
     (P.idx l5a s6a).bind fun x28 =>
     some (.inl (IntKind.i64.wrap (s6a+1),(l5a.set (s6a).toNat x27)))
   else
    (P.idx l5a s6a).bind fun x30 =>
    some (.inl (IntKind.i64.wrap (s6a+1),(l5a.set (s6a).toNat false)))
  else
   some (.inr l5a)
def jS (p0:av) (p1:Int):Option ((List Bool)) :=
 (LG 1 (p0.ag.length:Int) (p0.ag.length:Int) false).bind fun x1 =>
 (P.idx x1 p1).bind fun x3 =>
 (a8 (eN p0) (IntKind.i64.wrap (p1+1),(x1.set (p1).toNat true))).bind fun l5ax =>
 some l5ax
def fV (p0:av) (p2:Int) (r4:(List Bool)):(Int×(List Int))→Option ((Int×(List Int))⊕(((List Int))))
 | (s9b,l8b) =>
  if (s9b != p2) then
   (P.idx p0.ag s9b).bind fun x17 =>
   (P.idx r4 (if x17.aQ<x17.aY then x17.aQ else x17.aY)).bind fun x18 =>
   if (!x18) then
    (iH 8 l8b [(if x17.aQ>x17.aY then x17.aQ else x17.aY)]).bind fun x20 =>
    some (.inl ((if x17.aQ>x17.aY then x17.aQ else x17.aY),x20))
   else
    (iH 8 l8b [(if x17.aQ<x17.aY then x17.aQ else x17.aY)]).bind fun x22 =>
    some (.inl ((if x17.aQ<x17.aY then x17.aQ else x17.aY),x22))
  else
   some (.inr l8b)
def lD (p0:av) (p1:Int) (p2:Int):Option ((List Int)) :=
 (dq p0).bind fun r1 =>
 (if (!r1) then
  some true
 else
  (kW p0 p1).bind fun r25 =>
  if (!r25) then
   some true
  else
   (kW p0 p2).bind fun r27 =>
   some (!r27)).bind fun s27j1 =>
 if s27j1 then
  some ([])
 else
  (jS p0 p2).bind fun r4 =>
  (P.idx r4 p1).bind fun x5 =>
  if (!x5) then
   some ([])
  else
   (a8 (fV p0 p2 r4) (p1,[p1])).bind fun l8bx =>
   some l8bx
def l7 (p0:av) (p1:Int) (p2:(List Int)) (p3:fq) (p4:Int):Option (aC) :=
 (P.idx p2 p4).bind fun x1 =>
 (lD p0 p1 x1).bind fun r2 =>
 (P.idx p3.aH p4).bind fun x3 =>
 (P.idx p3.aP p4).bind fun x4 =>
 (P.idx p3.aO p4).bind fun x5 =>
 some (aC.mk x1 r2 x3 x4 x5)
def jd (p0:(List Int)):(Int×Int)→Option ((Int×Int)⊕((Int)))
 | (s3a,s4a) =>
  if decide (s4a<(p0.length:Int)) then
   (P.idx p0 s4a).bind fun x5 =>
   some (.inl (IntKind.i64.wrap (s3a+x5),IntKind.i64.wrap (s4a+1)))
  else
   some (.inr s3a)
def ij (p0:(List Int)):Option (Int) :=
 (a8 (jd p0) (0,0)).bind fun s3ax =>
 some s3ax
def fe (p0:av) (p1:fq) (p2:Int) (p3:aC) (p4:Int):Option (Bool) :=
 (lr).bind fun r1 =>
 (qX p0 20).bind fun r2 =>
 (if (!r2) then
  some true
 else
  (qN p1).bind fun r53 =>
  if (!r53) then
   some true
  else
   (rf ([p3]) ([])).bind fun r56 =>
   some (!r56)).bind fun s42j1 =>
 if s42j1 then
  some r1
 else
  (jN p0 p1).bind fun r5 =>
  (if (!r5.2.2.2) then
   some true
  else
   some ((r5.2.2.1.length:Int)==0)).bind fun s58j2 =>
  if s58j2 then
   some r1
  else
   (tk .i64 (IntKind.i64.wrap p2) (r5.2.2.1.length:Int)).bind fun x8 =>
   (P.idx r5.2.2.1 x8).bind fun x10 =>
   (ij p1.aP).bind fun r11 =>
   (ij p1.aO).bind fun r12 =>
   (lB r5.1 p3.bo).bind fun r13 =>
   (if r13 then
    (P.idx p3.bo 0).bind fun x48 =>
    if (x48==r5.2.1) then
     (P.idx p3.bo (IntKind.i64.wrap ((p3.bo.length:Int)-1))).bind fun x50 =>
     some (x50==x10)
    else
     some false
   else
    some r13).bind fun s20j3 =>
   (if s20j3 then
    (P.idx p1.aH x8).bind fun x42 =>
    if (p3.bE.toList==x42.toList) then
     (P.idx p1.aP x8).bind fun x44 =>
     if (p3.ay==x44) then
      (P.idx p1.aO x8).bind fun x46 =>
      some (p3.aA==x46)
     else
      some false
    else
     some false
   else
    some false).bind fun s21j4 =>
   (cY r5.1 r5.2.1 r11 r12 ([x10]) ([(aC.mk x10 p3.bo p3.bE p3.ay p3.aA)]) ([])).bind fun r17 =>
   (if (r17.2 != 0) then
    some true
   else
    some (!(s21j4==((r17.1.length:Int)==0)))).bind fun s157j5 =>
   if s157j5 then
    some false
   else
    (if (!s21j4) then
     (ib r17.1 ([(bn.mk x10 1)])).bind fun r39 =>
     some (!r39)
    else
     some false).bind fun s170j6 =>
    if s170j6 then
     some false
    else
     (cY r5.1 r5.2.1 r11 r12 ([x10]) ([]) ([])).bind fun r23 =>
     (if (r23.2 != 0) then
      some true
     else
      (ib r23.1 ([(bn.mk x10 0)])).bind fun r36 =>
      some (!r36)).bind fun s192j7 =>
     if s192j7 then
      some false
     else
      if (p4==r11) then
       some r1
      else
       (l7 r5.1 r5.2.1 r5.2.2.1 p1 x8).bind fun r27 =>
       (cY r5.1 r5.2.1 p4 r12 ([x10]) ([r27]) ([])).bind fun r29 =>
       if r1 then
        if (r29.2==0) then
         (ib r29.1 ([(bn.mk x10 1)])).bind fun r33 =>
         some r33
        else
         some false
       else
        some false
end Go.Proofs.YtpkahnkoecbndaaGreatDoor.P
namespace Go.Proofs.YtpkahnkoecbndaaGreatDoor.Am
open Go.RowKit Go.Proofs.YtpkahnkoecbndaaGreatDoor.P
set_option maxRecDepth 100000
set_option maxHeartbeats 4000000
set_option linter.unusedSimpArgs false
set_option linter.unusedVariables false
theorem Zi:type_of% (ai @VR<|ai @Ll<|ai @VS<|ai @Tr<|ai @Pr<|ai @Th<|ai @Ti<|ai @M6<|ai @Tj<|ai @HQ<|ai @M7<|ai @Tk<|ai @Tl<|ai @Tm<|ai @Tn<|ai @To<|ai @Tp<|ai @Tq<|ai @Ts<|ai @Tt<|ai @Tu<|ai @Tv<|ai @Tw<|ai @Tx<|ai @M8<|ai @Tz<|ai @HR<|ai @TA<|ai @TB<|ai @TC<|ai @HS<|ai @TD<|ai @TE<|ai @TF<|ai @HT<|ai @TG<|ai @TH<|ai @Pb<|ai @Pc<|ai @Pd<|ai @Pe<|ai @Pf<|ai @Pg<|ai @Ph<|ai @Pj<|ai @Pk<|ai @Pm<|ai @Pn<|ai @Po<|ai @Pp<|@Pq):=⟨@VR,@Ll,@VS,@Tr,@Pr,@Th,@Ti,@M6,@Tj,@HQ,@M7,@Tk,@Tl,@Tm,@Tn,@To,@Tp,@Tq,@Ts,@Tt,@Tu,@Tv,@Tw,@Tx,@M8,@Tz,@HR,@TA,@TB,@TC,@HS,@TD,@TE,@TF,@HT,@TG,@TH,@Pb,@Pc,@Pd,@Pe,@Pf,@Pg,@Ph,@Pj,@Pk,@Pm,@Pn,@Po,@Pp,@Pq⟩
def iB:jJ az:=zW (kx (eI .i64) (rG (eI .i64))) (fun x=>(x.aj,x.aa)) (by rintro⟨⟩ ⟨⟩ h;simpa using h)
theorem y7 (x:az):iB.cells x=[.int .i64 x.aj,.sl false false x.aa.length (ab (eI .i64) x.aa)]:=Eq.trans rfl rfl
theorem By:iB.size=2:=Eq.trans rfl rfl
theorem Jc (x:az):az.mk x.aj x.aa=x:=Eq.trans rfl rfl
def mz:jJ ba:=zW (kx iB iB) (fun x=>(x.cz,x.cw)) (by rintro⟨⟩ ⟨⟩ h;simpa using h)
theorem wE (x:ba):mz.cells x=[.int .i64 x.cz.aj,.sl false false x.cz.aa.length (ab (eI .i64) x.cz.aa),.int .i64 x.cw.aj,.sl false false x.cw.aa.length (ab (eI .i64) x.cw.aa)]:=Eq.trans rfl rfl
theorem y8:mz.size=4:=Eq.trans rfl rfl
theorem E8 (x:ba):ba.mk x.cz x.cw=x:=Eq.trans rfl rfl
def mA:jJ ew:=zW (kx mz mz) (fun x=>(x.bB,x.aV)) (by rintro⟨⟩ ⟨⟩ h;simpa using h)
theorem wG (x:ew):mA.cells x=[.int .i64 x.bB.cz.aj,.sl false false x.bB.cz.aa.length (ab (eI .i64) x.bB.cz.aa),.int .i64 x.bB.cw.aj,.sl false false x.bB.cw.aa.length (ab (eI .i64) x.bB.cw.aa),.int .i64 x.aV.cz.aj,.sl false false x.aV.cz.aa.length (ab (eI .i64) x.aV.cz.aa),.int .i64 x.aV.cw.aj,.sl false false x.aV.cw.aa.length (ab (eI .i64) x.aV.cw.aa)]:=Eq.trans rfl rfl
theorem za:mA.size=8:=Eq.trans rfl rfl
theorem Fa (x:ew):ew.mk x.bB x.aV=x:=Eq.trans rfl rfl
def aW:jJ aG:=zW (kx (eI .i64) mA) (fun x=>(x.cg,x.bL)) (by rintro⟨⟩ ⟨⟩ h;simpa using h)
theorem rI (x:aG):aW.cells x=[.int .i64 x.cg,.int .i64 x.bL.bB.cz.aj,.sl false false x.bL.bB.cz.aa.length (ab (eI .i64) x.bL.bB.cz.aa),.int .i64 x.bL.bB.cw.aj,.sl false false x.bL.bB.cw.aa.length (ab (eI .i64) x.bL.bB.cw.aa),.int .i64 x.bL.aV.cz.aj,.sl false false x.bL.aV.cz.aa.length (ab (eI .i64) x.bL.aV.cz.aa),.int .i64 x.bL.aV.cw.aj,.sl false false x.bL.aV.cw.aa.length (ab (eI .i64) x.bL.aV.cw.aa)]:=Eq.trans rfl rfl
theorem sQ:aW.size=9:=Eq.trans rfl rfl
theorem wM (x:aG):aG.mk x.cg x.bL=x:=Eq.trans rfl rfl
def sP:jJ fq:=zW (kx (rG eU) (kx (rG (eI .i64)) (rG (eI .i64)))) (fun x=>(x.aH,x.aP,x.aO)) (by rintro⟨⟩ ⟨⟩ h;simpa using h)
theorem wF (x:fq):sP.cells x=[.sl false false x.aH.length (ab eU x.aH),.sl false false x.aP.length (ab (eI .i64) x.aP),.sl false false x.aO.length (ab (eI .i64) x.aO)]:=Eq.trans rfl rfl
theorem y9:sP.size=3:=Eq.trans rfl rfl
theorem E9 (x:fq):fq.mk x.aH x.aP x.aO=x:=Eq.trans rfl rfl
def bt:jJ aC:=zW (kx (eI .i64) (kx (rG (eI .i64)) (kx eU (kx (eI .i64) (eI .i64))))) (fun x=>(x.cg,x.bo,x.bE,x.ay,x.aA)) (by rintro⟨⟩ ⟨⟩ h;simpa using h)
theorem rJ (x:aC):bt.cells x=[.int .i64 x.cg,.sl false false x.bo.length (ab (eI .i64) x.bo),.str x.bE,.int .i64 x.ay,.int .i64 x.aA]:=Eq.trans rfl rfl
theorem sS:bt.size=5:=Eq.trans rfl rfl
theorem wN (x:aC):aC.mk x.cg x.bo x.bE x.ay x.aA=x:=Eq.trans rfl rfl
def cf:jJ bn:=zW (kx (eI .i64) (eI .i64)) (fun x=>(x.cg,x.kz)) (by rintro⟨⟩ ⟨⟩ h;simpa using h)
theorem rH (x:bn):cf.cells x=[.int .i64 x.cg,.int .i64 x.kz]:=Eq.trans rfl rfl
theorem sO:cf.size=2:=Eq.trans rfl rfl
theorem wL (x:bn):bn.mk x.cg x.kz=x:=Eq.trans rfl rfl
def aq:jJ ak:=zW (kx eU (kx (eI .i64) (kx (eI .i64) (kx (eI .i64) (eI .i64))))) (fun x=>(x.bE,x.ay,x.aA,x.aY,x.aQ)) (by rintro⟨⟩ ⟨⟩ h;simpa using h)
theorem u5 (x:ak):aq.cells x=[.str x.bE,.int .i64 x.ay,.int .i64 x.aA,.int .i64 x.aY,.int .i64 x.aQ]:=Eq.trans rfl rfl
theorem wH:aq.size=5:=Eq.trans rfl rfl
theorem BJ (x:ak):ak.mk x.bE x.ay x.aA x.aY x.aQ=x:=Eq.trans rfl rfl
def dx:jJ av:=zW (rG aq) (fun x=>(x.ag)) (by rintro⟨⟩ ⟨⟩ h;simpa using h)
theorem u6 (x:av):dx.cells x=[.sl false false x.ag.length (ab aq x.ag)]:=Eq.trans rfl rfl
theorem wI:dx.size=1:=Eq.trans rfl rfl
theorem BK (x:av):av.mk x.ag=x:=Eq.trans rfl rfl
def Aq:jJ jM:=zW (kx dx (kx (eI .i64) (kx (eI .i64) (eI .i64)))) (fun x=>(x.Uz,x.xZ,x.tT,x.tS)) (by rintro⟨⟩ ⟨⟩ h;simpa using h)
theorem u7 (x:jM):Aq.cells x=[.sl false false x.Uz.ag.length (ab aq x.Uz.ag),.int .i64 x.xZ,.int .i64 x.tT,.int .i64 x.tS]:=Eq.trans rfl rfl
theorem wJ:Aq.size=4:=Eq.trans rfl rfl
theorem BL (x:jM):jM.mk x.Uz x.xZ x.tT x.tS=x:=Eq.trans rfl rfl
def E2:jJ wc:=zW dx (fun x=>(x.Au)) (by rintro⟨⟩ ⟨⟩ h;simpa using h)
theorem rK (x:wc):E2.cells x=[.sl false false x.Au.ag.length (ab aq x.Au.ag)]:=Eq.trans rfl rfl
theorem sT:E2.size=1:=Eq.trans rfl rfl
theorem wO (x:wc):wc.mk x.Au=x:=Eq.trans rfl rfl
theorem Vt {l:List _} : (ab (eI .i64) l).length=l.length*1:=cN _ l
theorem M9 {l:List _} : (ab (eI .i64) l).take (l.length*1)=ab (eI .i64) l:=by
 have:=fl (eI .i64) l l.length
 rw[List.take_length]at this
 exact this
theorem TI {l:List _} {i:Nat} {x:_} : (ab (eI .i64) (l.set i x)).take (l.length*1)=ab (eI .i64) (l.set i x):=by
 have:=@M9 (l.set i x)
 rwa [List.length_set]at this
theorem Vu {l:List _} : (ab (eI .u8) l).length=l.length*1:=cN _ l
theorem Na {l:List _} : (ab (eI .u8) l).take (l.length*1)=ab (eI .u8) l:=by
 have:=fl (eI .u8) l l.length
 rw[List.take_length]at this
 exact this
theorem TJ {l:List _} {i:Nat} {x:_} : (ab (eI .u8) (l.set i x)).take (l.length*1)=ab (eI .u8) (l.set i x):=by
 have:=@Na (l.set i x)
 rwa [List.length_set]at this
theorem Vv {l:List _} : (ab (rG (eI .i64)) l).length=l.length*1:=cN _ l
theorem Nb {l:List _} : (ab (rG (eI .i64)) l).take (l.length*1)=ab (rG (eI .i64)) l:=by
 have:=fl (rG (eI .i64)) l l.length
 rw[List.take_length]at this
 exact this
theorem TK {l:List _} {i:Nat} {x:_} : (ab (rG (eI .i64)) (l.set i x)).take (l.length*1)=ab (rG (eI .i64)) (l.set i x):=by
 have:=@Nb (l.set i x)
 rwa [List.length_set]at this
theorem Vw {l:List _} : (ab gr l).length=l.length*1:=cN _ l
theorem Nc {l:List _} : (ab gr l).take (l.length*1)=ab gr l:=by
 have:=fl gr l l.length
 rw[List.take_length]at this
 exact this
theorem TL {l:List _} {i:Nat} {x:_} : (ab gr (l.set i x)).take (l.length*1)=ab gr (l.set i x):=by
 have:=@Nc (l.set i x)
 rwa [List.length_set]at this
theorem Vx {l:List _} : (ab eU l).length=l.length*1:=cN _ l
theorem Nd {l:List _} : (ab eU l).take (l.length*1)=ab eU l:=by
 have:=fl eU l l.length
 rw[List.take_length]at this
 exact this
theorem TM {l:List _} {i:Nat} {x:_} : (ab eU (l.set i x)).take (l.length*1)=ab eU (l.set i x):=by
 have:=@Nd (l.set i x)
 rwa [List.length_set]at this
theorem Vy {l:List _} : (ab cf l).length=l.length*2:=cN _ l
theorem Nf {l:List _} : (ab cf l).take (l.length*2)=ab cf l:=by
 have:=fl cf l l.length
 rw[List.take_length]at this
 exact this
theorem TN {l:List _} {i:Nat} {x:_} : (ab cf (l.set i x)).take (l.length*2)=ab cf (l.set i x):=by
 have:=@Nf (l.set i x)
 rwa [List.length_set]at this
theorem Vz {l:List _} : (ab aW l).length=l.length*9:=cN _ l
theorem Ng {l:List _} : (ab aW l).take (l.length*9)=ab aW l:=by
 have:=fl aW l l.length
 rw[List.take_length]at this
 exact this
theorem TO {l:List _} {i:Nat} {x:_} : (ab aW (l.set i x)).take (l.length*9)=ab aW (l.set i x):=by
 have:=@Ng (l.set i x)
 rwa [List.length_set]at this
theorem VA {l:List _} : (ab bt l).length=l.length*5:=cN _ l
theorem Nh {l:List _} : (ab bt l).take (l.length*5)=ab bt l:=by
 have:=fl bt l l.length
 rw[List.take_length]at this
 exact this
theorem TP {l:List _} {i:Nat} {x:_} : (ab bt (l.set i x)).take (l.length*5)=ab bt (l.set i x):=by
 have:=@Nh (l.set i x)
 rwa [List.length_set]at this
theorem VB {l:List _} : (ab mA l).length=l.length*8:=cN _ l
theorem Ni {l:List _} : (ab mA l).take (l.length*8)=ab mA l:=by
 have:=fl mA l l.length
 rw[List.take_length]at this
 exact this
theorem TQ {l:List _} {i:Nat} {x:_} : (ab mA (l.set i x)).take (l.length*8)=ab mA (l.set i x):=by
 have:=@Ni (l.set i x)
 rwa [List.length_set]at this
theorem VC {l:List _} : (ab aq l).length=l.length*5:=cN _ l
theorem Nj {l:List _} : (ab aq l).take (l.length*5)=ab aq l:=by
 have:=fl aq l l.length
 rw[List.take_length]at this
 exact this
theorem TR {l:List _} {i:Nat} {x:_} : (ab aq (l.set i x)).take (l.length*5)=ab aq (l.set i x):=by
 have:=@Nj (l.set i x)
 rwa [List.length_set]at this
theorem Yu:type_of% (ai @wD<|ai @y6<|ai @Bx<|ai @E0<|ai @Og<|ai @Bw<|ai @E1<|ai @I8<|ai @wK<|ai @y7<|ai @By<|ai @wE<|ai @y8<|ai @wG<|ai @za<|ai @rI<|ai @sQ<|ai @wF<|ai @y9<|ai @rJ<|ai @sS<|ai @rH<|ai @sO<|ai @u5<|ai @wH<|ai @u6<|ai @wI<|ai @u7<|ai @wJ<|ai @rK<|@sT):=⟨@wD,@y6,@Bx,@E0,@Og,@Bw,@E1,@I8,@wK,@y7,@By,@wE,@y8,@wG,@za,@rI,@sQ,@wF,@y9,@rJ,@sS,@rH,@sO,@u5,@wH,@u6,@wI,@u7,@wJ,@rK,@sT⟩
theorem Zh:type_of% (ai @aM<|ai @Jc<|ai @E8<|ai @Fa<|ai @wM<|ai @E9<|ai @wN<|ai @wL<|ai @BJ<|ai @BK<|ai @BL<|ai @wO<|ai @Vt<|ai @M9<|ai @TI<|ai @Vu<|ai @Na<|ai @TJ<|ai @Vv<|ai @Nb<|ai @TK<|ai @Vw<|ai @Nc<|ai @TL<|ai @Vx<|ai @Nd<|ai @TM<|ai @Vy<|ai @Nf<|ai @TN<|ai @Vz<|ai @Ng<|ai @TO<|ai @VA<|ai @Nh<|ai @TP<|ai @VB<|ai @Ni<|ai @TQ<|ai @VC<|ai @Nj<|@TR):=⟨@aM,@Jc,@E8,@Fa,@wM,@E9,@wN,@wL,@BJ,@BK,@BL,@wO,@Vt,@M9,@TI,@Vu,@Na,@TJ,@Vv,@Nb,@TK,@Vw,@Nc,@TL,@Vx,@Nd,@TM,@Vy,@Nf,@TN,@Vz,@Ng,@TO,@VA,@Nh,@TP,@VB,@Ni,@TQ,@VC,@Nj,@TR⟩
theorem w:type_of% (ai @v<|ai @Zi<|ai @Yu<|ai @Zh<|@vi):=⟨@v,@Zi,@Yu,@Zh,@vi⟩
theorem bU:type_of% (ai @Yu<|ai @List.cons_append.{0}<|ai @List.nil_append.{0}<|ai @List.length_nil.{0}<|ai @List.drop_succ_cons.{0}<|@List.drop_zero.{0}):=⟨@Yu,@List.cons_append.{0},@List.nil_append.{0},@List.length_nil.{0},@List.drop_succ_cons.{0},@List.drop_zero.{0}⟩
noncomputable def iM:=eB (dR (aI .i64) (dK (aI .i64))) (fun x:Int×Int=>eg x.1 x.2) (fun r:Bool =>.clean (.bool r))
theorem gz (p0:Int) (p1:Int):iM none [.int .i64 p0,.int .i64 p1]=(eg p0 p1).map fun r:Bool=>(.clean (.bool r),none):=aJ _ _ _ (p0,p1)
theorem Ci (p0:Int) (p1:Int) (r:Bool) (hh:eg p0 p1=some r):aS .clean tab aU FU Tryz.f91 none [.int .i64 p0,.int .i64 p1]=some (.clean (.bool r),none):=by
 refine aw rfl Tryz.ntmps91 Tryz.results91 ?_
 unfold eg at hh
 try simp only[w,seval,-Int.reduceToNat]
 refine sp bk hh (fun _ hh =>?_) (fun _ hh =>?_)
 ·cases hh
  try simp only[w,seval,-Int.reduceToNat]
 ·cases hh
  try simp only[w,seval,-Int.reduceToNat]
theorem mC:bN Tryz.prog 91 iM:=bN.of (mode := .clean) tok bT.none mixed Tryz.func91 (by kernel_rfl) ⟨by kernel_rfl,by kernel_rfl⟩ (fun _=>Nat.le_of_ble_eq_true (by kernel_rfl)) (fun x r h=>Ci x.1 x.2 r h)
noncomputable def mL:=eB (dK (cR aq)) (fun x:ak=>iY x) (fun r:Bool =>.clean (.bool r))
theorem ns (p0_0:ByteArray) (p0_1:Int) (p0_2:Int) (p0_3:Int) (p0_4:Int):mL none [.agg [.str p0_0,.int .i64 p0_1,.int .i64 p0_2,.int .i64 p0_3,.int .i64 p0_4]]=(iY (ak.mk p0_0 p0_1 p0_2 p0_3 p0_4)).map fun r:Bool=>(.clean (.bool r),none):=aJ _ _ _ ((ak.mk p0_0 p0_1 p0_2 p0_3 p0_4))
noncomputable def nc:Env:=(Am.ext aU 91 false iM)
theorem DD:bT Tryz.prog nc:=(bT.none.add mC false)
theorem dB:type_of% (ai @w<|ai @gz<|@nc.eq_1):=⟨@w,@gz,@nc.eq_1⟩
theorem Hi (p0:ak) (r:Bool) (hh:iY p0=some r):aS .clean tab nc FU Tryz.f51 none [.agg [.str p0.bE,.int .i64 p0.ay,.int .i64 p0.aA,.int .i64 p0.aY,.int .i64 p0.aQ]]=some (.clean (.bool r),none):=by
 refine aw rfl Tryz.ntmps51 Tryz.results51 ?_
 unfold iY at hh
 try simp only[dB,seval,-Int.reduceToNat]
 obtain⟨o1,ho1,hh⟩:=ae hh
 refine bH 0 (fun s t H e=>match s with|s3j1=>∃v1j1:Nat,t 1=.ptr 1 v1j1 0∧t 3=.bool s3j1∧H 1=some ⟨v1j1,87,[.str p0.bE,.int .i64 p0.ay,.int .i64 p0.aA,.int .i64 p0.aY,.int .i64 p0.aQ],false,false,false⟩) (fun s=>s=o1) ?_ ?_
 ·rintro s3j1 t H e ⟨v1j1,Zj1⟩ rfl
  try dsimp only at hh
  try simp only[dB,seval,-Int.reduceToNat,Zj1]
  refine sp bk hh (fun _ hh =>?_) (fun _ hh =>?_)
  ·try simp only[dB,seval,-Int.reduceToNat,Zj1]
   refine sp bk hh (fun _ hh =>?_) (fun _ hh =>?_)
   ·obtain⟨r4,hr4,hh⟩:=ae hh
    try simp only[dB,seval,-Int.reduceToNat,Zj1,hr4]
    refine sp bk hh (fun _ hh =>?_) (fun _ hh =>?_)
    ·obtain⟨r6,hr6,hh⟩:=ae hh
     cases hh
     try simp only[dB,seval,-Int.reduceToNat,Zj1,hr4,hr6]
    ·cases hh
     try simp only[dB,seval,-Int.reduceToNat,Zj1,hr4]
   ·cases hh
    try simp only[dB,seval,-Int.reduceToNat,Zj1]
  ·cases hh
   try simp only[dB,seval,-Int.reduceToNat,Zj1]
 ·clear hh
  have hh:=ho1
  try simp only[dB,seval,-Int.reduceToNat]
  refine sp bk hh (fun _ hh =>?_) (fun _ hh =>?_)
  ·cases hh
   try simp only[dB,seval,-Int.reduceToNat]
   rw[al]
   refine⟨_,rfl,?_⟩
   refine⟨0,?_,?_,?_⟩
   all_goals first|rfl|(simp only[dB,seval,-Int.reduceToNat]<;>rfl)
  ·cases hh
   try simp only[dB,seval,-Int.reduceToNat]
   rw[al]
   refine⟨_,rfl,?_⟩
   refine⟨0,?_,?_,?_⟩
   all_goals first|rfl|(simp only[dB,seval,-Int.reduceToNat]<;>rfl)
theorem ve:bN Tryz.prog 51 mL:=bN.of (mode := .clean) tok DD mixed Tryz.func51 (by kernel_rfl) ⟨by kernel_rfl,by kernel_rfl⟩ (fun _=>Nat.le_of_ble_eq_true (by kernel_rfl)) (fun x r h=>Hi x r h)
noncomputable def qg:=eB (dR (iG aq) (dR (aI .i64) (dK (aI .i64)))) (fun x:(List ak)×Int×Int=>jU x.1 x.2.1 x.2.2) (fun r:ak×Int =>.clean (.tup [.agg [.str r.1.bE,.int .i64 r.1.ay,.int .i64 r.1.aA,.int .i64 r.1.aY,.int .i64 r.1.aQ],.int .i64 r.2]))
theorem xj (p0:(List ak)) (p1:Int) (p2:Int):qg none [.sl false false p0.length (ab aq p0),.int .i64 p1,.int .i64 p2]=(jU p0 p1 p2).map fun r:ak×Int=>(.clean (.tup [.agg [.str r.1.bE,.int .i64 r.1.ay,.int .i64 r.1.aA,.int .i64 r.1.aY,.int .i64 r.1.aQ],.int .i64 r.2]),none):=aJ _ _ _ (p0,p1,p2)
noncomputable def nd:Env:=(Am.ext aU 91 false iM)
theorem DE:bT Tryz.prog nd:=(bT.none.add mC false)
theorem di:type_of% (ai @w<|ai @gz<|@nd.eq_1):=⟨@w,@gz,@nd.eq_1⟩
theorem Hj (p0:(List ak)) (p1:Int) (p2:Int) (r:ak×Int) (hh:jU p0 p1 p2=some r):aS .clean tab nd FU Tryz.f67 none [.sl false false p0.length (ab aq p0),.int .i64 p1,.int .i64 p2]=some (.clean (.tup [.agg [.str r.1.bE,.int .i64 r.1.ay,.int .i64 r.1.aA,.int .i64 r.1.aY,.int .i64 r.1.aQ],.int .i64 r.2]),none):=by
 refine aw rfl Tryz.ntmps67 Tryz.results67 ?_
 unfold jU at hh
 obtain⟨r1,hr1,hh⟩:=ae hh
 try simp only[di,seval,-Int.reduceToNat,hr1]
 obtain⟨o2,ho2,hh⟩:=ae hh
 refine bH 0 (fun s t H e=>match s with|s24j1=>∃v6j1:Nat,t 0=.sl false false p0.length (ab aq p0)∧t 1=.int .i64 p1∧t 2=.int .i64 p2∧t 6=.ptr 6 v6j1 0∧t 24=.bool s24j1∧H 6=some ⟨v6j1,87,[.str (ByteArray.mk #[]),.int .i64 0,.int .i64 0,.int .i64 0,.int .i64 0],false,false,false⟩) (fun s=>s=o2) ?_ ?_
 ·rintro s24j1 t H e ⟨v6j1,Zj1⟩ rfl
  try dsimp only at hh
  try simp only[di,seval,-Int.reduceToNat,hr1,Zj1]
  refine sp an hh (fun _ hh =>?_) (fun _ hh =>?_)
  ·cases hh
   try simp only[di,seval,-Int.reduceToNat,hr1,Zj1]
  ·obtain⟨x4,hx4,hh⟩:=ae hh
   have ax4:=bF aq hx4
   simp only[bU]at ax4
   obtain⟨x5,hx5,hh⟩:=ae hh
   have ax5:=bF aq hx5
   simp only[bU]at ax5
   try simp only[di,seval,-Int.reduceToNat,hr1,Zj1,ax4,ax5]
   refine bX (by kernel_rfl) ?_
   try simp only[di,seval,-Int.reduceToNat,hr1,Zj1,ax4,ax5]
   refine sp aR hh (fun _ hh =>?_) (fun _ hh =>?_)
   ·cases hh
    try simp only[di,seval,-Int.reduceToNat,hr1,Zj1,ax4,ax5]
   ·try simp only[di,seval,-Int.reduceToNat,hr1,Zj1,ax4,ax5]
    refine sp an hh (fun _ hh =>?_) (fun _ hh =>?_)
    ·cases hh
     try simp only[di,seval,-Int.reduceToNat,hr1,Zj1,ax4,ax5]
    ·cases hh
     try simp only[di,seval,-Int.reduceToNat,hr1,Zj1,ax4,ax5]
 ·clear hh
  have hh:=ho2
  try simp only[di,seval,-Int.reduceToNat,hr1]
  refine sp aR hh (fun _ hh =>?_) (fun _ hh =>?_)
  ·cases hh
   try simp only[di,seval,-Int.reduceToNat,hr1]
   rw[al]
   refine⟨_,rfl,?_⟩
   refine⟨0,?_,?_,?_,?_,?_,?_⟩
   all_goals first|rfl|(simp only[di,seval,-Int.reduceToNat,hr1]<;>rfl)
  ·obtain⟨r9,hr9,hh⟩:=ae hh
   cases hh
   try simp only[di,seval,-Int.reduceToNat,hr1,hr9]
   rw[al]
   refine⟨_,rfl,?_⟩
   refine⟨0,?_,?_,?_,?_,?_,?_⟩
   all_goals first|rfl|(simp only[di,seval,-Int.reduceToNat,hr1,hr9]<;>rfl)
theorem D1:bN Tryz.prog 67 qg:=bN.of (mode := .clean) tok DE mixed Tryz.func67 (by kernel_rfl) ⟨by kernel_rfl,by kernel_rfl⟩ (fun _=>Nat.le_of_ble_eq_true (by kernel_rfl)) (fun x r h=>Hj x.1 x.2.1 x.2.2 r h)
noncomputable def fb:=eB (dK (cR dx)) (fun x:av=>dq x) (fun r:Bool =>.clean (.bool r))
theorem cU (p0_0:(List ak)):fb none [.agg [.sl false false p0_0.length (ab aq p0_0)]]=(dq (av.mk p0_0)).map fun r:Bool=>(.clean (.bool r),none):=aJ _ _ _ ((av.mk p0_0))
noncomputable def lV:Env:=(Am.ext (Am.ext aU 51 false mL) 67 false qg)
theorem BZ:bT Tryz.prog lV:=((bT.none.add ve false).add D1 false)
theorem bV:type_of% (ai @w<|ai @ns<|ai @xj<|@lV.eq_1):=⟨@w,@ns,@xj,@lV.eq_1⟩
theorem DR (p0:av) (r:Bool) (hh:dq p0=some r):aS .clean tab lV FU Tryz.f39 none [.agg [.sl false false p0.ag.length (ab aq p0.ag)]]=some (.clean (.bool r),none):=by
 refine aw rfl Tryz.ntmps39 Tryz.results39 ?_
 unfold dq at hh
 try simp only[bV,seval,-Int.reduceToNat]
 refine sp an hh (fun _ hh =>?_) (fun _ hh =>?_)
 ·cases hh
  try simp only[bV,seval,-Int.reduceToNat]
 ·try simp only[bV,seval,-Int.reduceToNat]
  obtain⟨o11,ho11,hh⟩:=ae hh
  refine aB (fun s t H e=>match s with|s14a=>∃v1a:Nat,t 1=.ptr 1 v1a 0∧t 12=.sl false false p0.ag.length (ab aq p0.ag)∧t 13=.int .i64 (p0.ag.length:Int)∧t 14=.int .i64 s14a∧H 1=some ⟨v1a,24,[.sl false false p0.ag.length (ab aq p0.ag)],false,false,false⟩) (fun o x t H e=>match o with|(.inl _)=>x=.exit 0|(.inr r)=>x=.ret∧gj .clean tab none [.tmp 2] ⟨t,H,e⟩=some (.clean (.bool r),none)) ho11 ?_ ?_ ?_
  ·refine⟨0,?_,?_,?_,?_,?_⟩
   all_goals first|rfl|(simp only[bV,seval,-Int.reduceToNat]<;>rfl)
  ·rintro s14a t H e ⟨v1a,Za⟩ c hh
   simp only[kY]at hh
   try simp only[bV,seval,-Int.reduceToNat,Za]
   refine sp an hh (fun _ hh =>?_) (fun _ hh =>?_)
   ·obtain⟨x13,hx13,hh⟩:=ae hh
    have ax13:=bF aq hx13
    simp only[bU]at ax13
    obtain⟨r14,hr14,hh⟩:=ae hh
    try simp only[bV,seval,-Int.reduceToNat,Za,ax13,hr14]
    refine sp an hh (fun _ hh =>?_) (fun _ hh =>?_)
    ·cases hh
     try simp only[bV,seval,-Int.reduceToNat,Za,ax13,hr14]
     refine iS ?_
     refine⟨v1a,?_,?_,?_,?_,?_⟩
     all_goals first|rfl|(simp only[bV,seval,-Int.reduceToNat,Za,ax13,hr14]<;>rfl)
    ·obtain⟨x16,hx16,hh⟩:=ae hh
     obtain⟨q17a,q17b,q17c,q17d,q17e⟩:=CW aq hx16
     simp only[bU]at q17e
     obtain⟨r18,hr18,hh⟩:=ae hh
     try simp only[bV,seval,-Int.reduceToNat,Za,ax13,hr14,q17a,q17b,q17c,q17d,q17e,hr18]
     refine bX (by kernel_rfl) ?_
     try simp only[bV,seval,-Int.reduceToNat,Za,ax13,hr14,q17a,q17b,q17c,q17d,q17e,hr18]
     refine sp aR hh (fun _ hh =>?_) (fun _ hh =>?_)
     ·cases hh
      try simp only[bV,seval,-Int.reduceToNat,Za,ax13,hr14,q17a,q17b,q17c,q17d,q17e,hr18]
      refine ti ⟨rfl,?_⟩
      try simp only[bV,seval,-Int.reduceToNat,Za,ax13,hr14,q17a,q17b,q17c,q17d,q17e,hr18]
     ·try simp only[bV,seval,-Int.reduceToNat,Za,ax13,hr14,q17a,q17b,q17c,q17d,q17e,hr18]
      refine sp an hh (fun _ hh =>?_) (fun _ hh =>?_)
      ·cases hh
       try simp only[bV,seval,-Int.reduceToNat,Za,ax13,hr14,q17a,q17b,q17c,q17d,q17e,hr18]
       refine ti ⟨rfl,?_⟩
       try simp only[bV,seval,-Int.reduceToNat,Za,ax13,hr14,q17a,q17b,q17c,q17d,q17e,hr18]
      ·cases hh
       try simp only[bV,seval,-Int.reduceToNat,Za,ax13,hr14,q17a,q17b,q17c,q17d,q17e,hr18]
       refine iS ?_
       refine⟨v1a,?_,?_,?_,?_,?_⟩
       all_goals first|rfl|(simp only[bV,seval,-Int.reduceToNat,Za,ax13,hr14,q17a,q17b,q17c,q17d,q17e,hr18]<;>rfl)
   ·cases hh
    try simp only[bV,seval,-Int.reduceToNat,Za]
    refine ki ?_
    exact rfl
  ·rintro x t H e hx
   rcases o11 with _|ra
   ·dsimp only at hx hh
    subst hx
    cases hh
    try simp only[bV,seval,-Int.reduceToNat]
   ·dsimp only at hx hh
    obtain⟨rfl,hE⟩:=hx
    cases hh
    try simp only[bq,bc,bC,cP,cO]
    exact hE
theorem gx:bN Tryz.prog 39 fb:=bN.of (mode := .clean) tok BZ mixed Tryz.func39 (by kernel_rfl) ⟨by kernel_rfl,by kernel_rfl⟩ (fun _=>Nat.le_of_ble_eq_true (by kernel_rfl)) (fun x r h=>DR x r h)
noncomputable def sx:=eB (dR Ug (dR (aI .i64) (dK (aI .i64)))) (fun x:ByteArray×Int×Int=>kd x.1 x.2.1 x.2.2) (fun r:ak =>.clean (.agg [.str r.bE,.int .i64 r.ay,.int .i64 r.aA,.int .i64 r.aY,.int .i64 r.aQ]))
theorem zy (p0:ByteArray) (p1:Int) (p2:Int):sx none [.str p0,.int .i64 p1,.int .i64 p2]=(kd p0 p1 p2).map fun r:ak=>(.clean (.agg [.str r.bE,.int .i64 r.ay,.int .i64 r.aA,.int .i64 r.aY,.int .i64 r.aQ]),none):=aJ _ _ _ (p0,p1,p2)
theorem Km (p0:ByteArray) (p1:Int) (p2:Int) (r:ak) (hh:kd p0 p1 p2=some r):aS .clean tab aU FU Tryz.f62 none [.str p0,.int .i64 p1,.int .i64 p2]=some (.clean (.agg [.str r.bE,.int .i64 r.ay,.int .i64 r.aA,.int .i64 r.aY,.int .i64 r.aQ]),none):=by
 refine aw rfl Tryz.ntmps62 Tryz.results62 ?_
 unfold kd at hh
 cases hh
 try simp only[w,seval,-Int.reduceToNat]
theorem HB:bN Tryz.prog 62 sx:=bN.of (mode := .clean) tok bT.none mixed Tryz.func62 (by kernel_rfl) ⟨by kernel_rfl,by kernel_rfl⟩ (fun _=>Nat.le_of_ble_eq_true (by kernel_rfl)) (fun x r h=>Km x.1 x.2.1 x.2.2 r h)
theorem yk (r:(List ak)) (hh:dA []=some r):aS (.fresh 87 5) tab aU FU Tryz.f63 none [.sl true true 0 []]=some (.fresh 87 5 r.length (ab aq r),none):=by
 unfold dA at hh
 obtain⟨qa,qb,qc⟩:=qk hh
 subst qa
 refine aw rfl Tryz.ntmps63 Tryz.results63 ?_
 simp only[w,seval,-Int.reduceToNat,Nat.lt_irrefl]
theorem yl (r:(List ak)) (hh:dA []=some r):aS (.fresh 87 5) tab aU FU Tryz.f63 none [.sl true false 0 []]=some (.fresh 87 5 r.length (ab aq r),none):=by
 unfold dA at hh
 obtain⟨qa,qb,qc⟩:=qk hh
 subst qa
 refine aw rfl Tryz.ntmps63 Tryz.results63 ?_
 simp only[w,seval,-Int.reduceToNat,Nat.lt_irrefl]
theorem ym (p0 r:(List ak)) (hp:0<p0.length) (hh:dA p0=some r):aS (.fresh 87 5) tab aU FU Tryz.f63 none [.sl false false p0.length (ab aq p0)]=some (.fresh 87 5 r.length (ab aq r),none):=by
 unfold dA at hh
 have hz:¬p0.length=0:=by omega
 obtain⟨qa,qb,qc⟩:=qk hh
 subst qa
 refine aw rfl Tryz.ntmps63 Tryz.results63 ?_
 simp only[w,seval,-Int.reduceToNat,hp,hz,qb,qc]
noncomputable def kp:=eB (dK (iG aq)) (fun x:(List ak)=>dA x) (fun r:(List ak) =>.fresh 87 5 r.length (ab aq r))
theorem kM (p0:(List ak)):kp none [.sl false false p0.length (ab aq p0)]=(dA p0).map fun r:(List ak)=>(.fresh 87 5 r.length (ab aq r),none):=aJ _ _ _ p0
theorem rO:bN Tryz.prog 63 kp:=bN.VG (mode:=(.fresh 87 5)) tok bT.none mixed Tryz.func63 (by kernel_rfl) ⟨by kernel_rfl,by kernel_rfl⟩ (Nat.le_of_ble_eq_true (by kernel_rfl)) yk yl ym
noncomputable def R9:List D→List D→Option (List D):=pJ aq (dK (cR aq)) H6
theorem Xb:AJ Tryz.prog 64 ⟨87,5,48,R9⟩:=V0 aq ak.mk (fun _ _ _ _ _=>rfl) (fun x=>⟨_,_,_,_,_,rfl⟩)
theorem vS (l:List ak) (p1_0:ByteArray) (p1_1:Int) (p1_2:Int) (p1_3:Int) (p1_4:Int) {z:List ak} (h:lE l (ak.mk p1_0 p1_1 p1_2 p1_3 p1_4)=some z):∃cs,R9 (ab aq l) [.agg [.str p1_0,.int .i64 p1_1,.int .i64 p1_2,.int .i64 p1_3,.int .i64 p1_4]]=some cs∧ab aq l++cs=ab aq z∧l.length+1=z.length∧z.length*48≤140737488355328:=Jy aq (A:=(dK (cR aq))) (F:=H6) (b:=(ak.mk p1_0 p1_1 p1_2 p1_3 p1_4)) h
theorem uK (r:(List Int)) (hh:bD []=some r):aS (.fresh 3 1) tab aU FU Tryz.f65 none [.sl true true 0 []]=some (.fresh 3 1 r.length (ab (eI .i64) r),none):=by
 unfold bD at hh
 obtain⟨qa,qb,qc⟩:=qk hh
 subst qa
 refine aw rfl Tryz.ntmps65 Tryz.results65 ?_
 simp only[w,seval,-Int.reduceToNat,Nat.lt_irrefl]
theorem uL (r:(List Int)) (hh:bD []=some r):aS (.fresh 3 1) tab aU FU Tryz.f65 none [.sl true false 0 []]=some (.fresh 3 1 r.length (ab (eI .i64) r),none):=by
 unfold bD at hh
 obtain⟨qa,qb,qc⟩:=qk hh
 subst qa
 refine aw rfl Tryz.ntmps65 Tryz.results65 ?_
 simp only[w,seval,-Int.reduceToNat,Nat.lt_irrefl]
theorem uM (p0 r:(List Int)) (hp:0<p0.length) (hh:bD p0=some r):aS (.fresh 3 1) tab aU FU Tryz.f65 none [.sl false false p0.length (ab (eI .i64) p0)]=some (.fresh 3 1 r.length (ab (eI .i64) r),none):=by
 unfold bD at hh
 have hz:¬p0.length=0:=by omega
 obtain⟨qa,qb,qc⟩:=qk hh
 subst qa
 refine aw rfl Tryz.ntmps65 Tryz.results65 ?_
 simp only[w,seval,-Int.reduceToNat,hp,hz,qb,qc]
noncomputable def eP:=eB (dK (iG (eI .i64))) (fun x:(List Int)=>bD x) (fun r:(List Int) =>.fresh 3 1 r.length (ab (eI .i64) r))
theorem dD (p0:(List Int)):eP none [.sl false false p0.length (ab (eI .i64) p0)]=(bD p0).map fun r:(List Int)=>(.fresh 3 1 r.length (ab (eI .i64) r),none):=aJ _ _ _ p0
theorem gU:bN Tryz.prog 65 eP:=bN.VG (mode:=(.fresh 3 1)) tok bT.none mixed Tryz.func65 (by kernel_rfl) ⟨by kernel_rfl,by kernel_rfl⟩ (Nat.le_of_ble_eq_true (by kernel_rfl)) uK uL uM
noncomputable def Sa:List D→List D→Option (List D):=pJ aq (dR (aI .i64) (dK (aI .i64))) (zj ak.mk (fun x=>x.ay) (fun x=>x.aA))
theorem Xc:AJ Tryz.prog 66 ⟨87,5,48,Sa⟩:=UR aq ak.mk (fun _ _ _ _ _=>rfl) (fun x=>⟨_,_,_,_,_,rfl⟩) (fun x=>x.ay) (fun x=>x.aA) (fun _ _ _ _ _=>rfl) (fun _ _ _ _ _=>rfl)
theorem uO (l:List ak) (p1:Int) (p2:Int) {z:List ak} (h:iF l p1 p2=some z):∃cs,Sa (ab aq l) [.int .i64 p1,.int .i64 p2]=some cs∧ab aq l++cs=ab aq z∧l.length+1=z.length∧z.length*48≤140737488355328:=Jy aq (A:=(dR (aI .i64) (dK (aI .i64)))) (F:=(zj ak.mk (fun x=>x.ay) (fun x=>x.aA))) (b:=(p1,p2)) h
noncomputable def mK:=eB (dR (cR dx) (dR (iG eU) (dR (iG (eI .i64)) (dK (iG (eI .i64)))))) (fun x:av×(List ByteArray)×(List Int)×(List Int)=>gV x.1 x.2.1 x.2.2.1 x.2.2.2) (fun r:av×Int×(List Int)×Int =>.clean (.tup [.agg [.sl false false r.1.ag.length (ab aq r.1.ag)],.int .i64 r.2.1,.sl false false r.2.2.1.length (ab (eI .i64) r.2.2.1),.int .i64 r.2.2.2]))
theorem kN (p0_0:(List ak)) (p1:(List ByteArray)) (p2:(List Int)) (p3:(List Int)):mK none [.agg [.sl false false p0_0.length (ab aq p0_0)],.sl false false p1.length (ab eU p1),.sl false false p2.length (ab (eI .i64) p2),.sl false false p3.length (ab (eI .i64) p3)]=(gV (av.mk p0_0) p1 p2 p3).map fun r:av×Int×(List Int)×Int=>(.clean (.tup [.agg [.sl false false r.1.ag.length (ab aq r.1.ag)],.int .i64 r.2.1,.sl false false r.2.2.1.length (ab (eI .i64) r.2.2.1),.int .i64 r.2.2.2]),none):=aJ _ _ _ ((av.mk p0_0),p1,p2,p3)
noncomputable def mV:Env:=(Am.keep 82 (Am.keep 81 (Am.va 14 1000014 (Am.yh 66 ⟨87,5,48,Sa⟩ (Am.ext (Am.yh 64 ⟨87,5,48,R9⟩ (Am.ext (Am.ext (Am.ext aU 39 false fb) 62 false sx) 63 false kp)) 65 false eP)))))
theorem Dy:bT Tryz.prog mV:=(bT.keep (bT.keep (bT.va (bT.yh ((bT.yh (((bT.none.add gx false).add HB false).add rO false) Xb).add gU false) Xc) 14 1000014) 81) 82)
theorem ax:type_of% (ai @w<|ai @cU<|ai @zy<|ai @kM<|ai @dD<|@mV.eq_1):=⟨@w,@cU,@zy,@kM,@dD,@mV.eq_1⟩
theorem Hd (p0:av) (p1:(List ByteArray)) (p2:(List Int)) (p3:(List Int)) (r:av×Int×(List Int)×Int) (hh:gV p0 p1 p2 p3=some r):aS .clean tab mV FU Tryz.f37 none [.agg [.sl false false p0.ag.length (ab aq p0.ag)],.sl false false p1.length (ab eU p1),.sl false false p2.length (ab (eI .i64) p2),.sl false false p3.length (ab (eI .i64) p3)]=some (.clean (.tup [.agg [.sl false false r.1.ag.length (ab aq r.1.ag)],.int .i64 r.2.1,.sl false false r.2.2.1.length (ab (eI .i64) r.2.2.1),.int .i64 r.2.2.2]),none):=by
 refine aw rfl Tryz.ntmps37 Tryz.results37 ?_
 unfold gV at hh
 obtain⟨r1,hr1,hh⟩:=ae hh
 try simp only[ax,ne_eq,not_false_eq_true,seval,-Int.reduceToNat,hr1]
 obtain⟨o2,ho2,hh⟩:=ae hh
 refine bH 0 (fun s t H e=>match s with|s39j1=>∃v4j1:Nat,∃v8j1:Nat,∃v10j1:Nat,t 1=.sl false false p1.length (ab eU p1)∧t 2=.sl false false p2.length (ab (eI .i64) p2)∧t 3=.sl false false p3.length (ab (eI .i64) p3)∧t 4=.ptr 4 v4j1 0∧t 8=.ptr 8 v8j1 0∧t 10=.buf 10 v10j1 1 0 0∧t 12=.int .i64 (p1.length:Int)∧t 39=.bool s39j1∧H 4=some ⟨v4j1,24,[.sl false false p0.ag.length (ab aq p0.ag)],false,false,false⟩∧H 8=some ⟨v8j1,24,[.sl true true 0 []],false,false,false⟩∧H 10=some ⟨v10j1,3,[],false,true,false⟩) (fun s=>s=o2) ?_ ?_
 ·rintro s39j1 t H e ⟨v4j1,v8j1,v10j1,Zj1⟩ rfl
  try dsimp only at hh
  try simp only[ax,ne_eq,not_false_eq_true,seval,-Int.reduceToNat,hr1,Zj1]
  refine sp an hh (fun _ hh =>?_) (fun _ hh =>?_)
  ·cases hh
   try simp only[ax,ne_eq,not_false_eq_true,seval,-Int.reduceToNat,hr1,Zj1]
  ·try simp only[ax,ne_eq,not_false_eq_true,seval,-Int.reduceToNat,hr1,Zj1]
   obtain⟨o12,ho12,hh⟩:=ae hh
   refine aB (fun s t H e=>match s with|s43b=>∃v4b:Nat,∃v8b:Nat,∃v10b:Nat,t 1=.sl false false p1.length (ab eU p1)∧t 2=.sl false false p2.length (ab (eI .i64) p2)∧t 3=.sl false false p3.length (ab (eI .i64) p3)∧t 4=.ptr 4 v4b 0∧t 8=.ptr 8 v8b 0∧t 10=.buf 10 v10b 1 0 0∧t 12=.int .i64 (p1.length:Int)∧t 42=.int .i64 (p1.length:Int)∧t 43=.int .i64 s43b∧H 4=some ⟨v4b,24,[.sl false false p0.ag.length (ab aq p0.ag)],false,false,false⟩∧H 8=some ⟨v8b,24,[.sl true true 0 []],false,false,false⟩∧H 10=some ⟨v10b,3,[],false,true,false⟩) (fun o x t H e=>match o with|(.inl _)=>x=.exit 0∧∃v4bx:Nat,∃v8bx:Nat,∃v10bx:Nat,t 1=.sl false false p1.length (ab eU p1)∧t 2=.sl false false p2.length (ab (eI .i64) p2)∧t 3=.sl false false p3.length (ab (eI .i64) p3)∧t 4=.ptr 4 v4bx 0∧t 8=.ptr 8 v8bx 0∧t 10=.buf 10 v10bx 1 0 0∧t 12=.int .i64 (p1.length:Int)∧H 4=some ⟨v4bx,24,[.sl false false p0.ag.length (ab aq p0.ag)],false,false,false⟩∧H 8=some ⟨v8bx,24,[.sl true true 0 []],false,false,false⟩∧H 10=some ⟨v10bx,3,[],false,true,false⟩|(.inr r)=>x=.ret∧gj .clean tab none [.cell 8 24,.tmp 9,.tmp 10,.tmp 11] ⟨t,H,e⟩=some (.clean (.tup [.agg [.sl false false r.1.ag.length (ab aq r.1.ag)],.int .i64 r.2.1,.sl false false r.2.2.1.length (ab (eI .i64) r.2.2.1),.int .i64 r.2.2.2]),none)) ho12 ?_ ?_ ?_
   ·refine⟨v4j1,v8j1,v10j1,?_,?_,?_,?_,?_,?_,?_,?_,?_,?_,?_,?_⟩
    all_goals first|rfl|(simp only[ax,ne_eq,not_false_eq_true,seval,-Int.reduceToNat,hr1,Zj1]<;>rfl)
   ·rintro s43b t H e ⟨v4b,v8b,v10b,Zb⟩ c hh
    simp only[jy]at hh
    try simp only[ax,ne_eq,not_false_eq_true,seval,-Int.reduceToNat,hr1,Zb]
    refine sp an hh (fun _ hh =>?_) (fun _ hh =>?_)
    ·obtain⟨x14,hx14,hh⟩:=ae hh
     have ax14:=bF eU hx14
     simp only[bU]at ax14
     obtain⟨x15,hx15,hh⟩:=ae hh
     have ax15:=bF (eI .i64) hx15
     simp only[bU]at ax15
     obtain⟨x16,hx16,hh⟩:=ae hh
     have ax16:=bF (eI .i64) hx16
     simp only[bU]at ax16
     obtain⟨r17,hr17,hh⟩:=ae hh
     have i18:=cU ([r17])
     simp only[aM,bU,List.length_cons,List.length_nil,Nat.zero_add,Nat.reduceAdd,List.length_set]at i18
     obtain⟨r19,hr19,hh⟩:=ae hh
     try simp only[ax,ne_eq,not_false_eq_true,seval,-Int.reduceToNat,hr1,Zb,ax14,ax15,ax16,hr17,i18,hr19]
     refine bX (by kernel_rfl) ?_
     try simp only[ax,ne_eq,not_false_eq_true,seval,-Int.reduceToNat,hr1,Zb,ax14,ax15,ax16,hr17,i18,hr19]
     refine sp an hh (fun _ hh =>?_) (fun _ hh =>?_)
     ·cases hh
      try simp only[ax,ne_eq,not_false_eq_true,seval,-Int.reduceToNat,hr1,Zb,ax14,ax15,ax16,hr17,i18,hr19]
      refine ti ⟨rfl,?_⟩
      try simp only[ax,ne_eq,not_false_eq_true,seval,-Int.reduceToNat,hr1,Zb,ax14,ax15,ax16,hr17,i18,hr19]
     ·cases hh
      try simp only[ax,ne_eq,not_false_eq_true,seval,-Int.reduceToNat,hr1,Zb,ax14,ax15,ax16,hr17,i18,hr19]
      refine iS ?_
      refine⟨v4b,v8b,v10b,?_,?_,?_,?_,?_,?_,?_,?_,?_,?_,?_,?_⟩
      all_goals first|rfl|(simp only[ax,ne_eq,not_false_eq_true,seval,-Int.reduceToNat,hr1,Zb,ax14,ax15,ax16,hr17,i18,hr19]<;>rfl)
    ·cases hh
     try simp only[ax,ne_eq,not_false_eq_true,seval,-Int.reduceToNat,hr1,Zb]
     refine ki ?_
     refine⟨rfl,⟨v4b,v8b,v10b,?_,?_,?_,?_,?_,?_,?_,?_,?_,?_⟩⟩
     all_goals first|rfl|(simp only[ax,ne_eq,not_false_eq_true,seval,-Int.reduceToNat,hr1,Zb]<;>rfl)
   ·rintro x t H e hx
    rcases o12 with _|rb
    ·dsimp only at hx hh
     obtain⟨rfl,⟨v4bx,v8bx,v10bx,Zbx⟩⟩:=hx
     try simp only[ax,ne_eq,not_false_eq_true,seval,-Int.reduceToNat,hr1,Zbx]
     obtain⟨o21,ho21,hh⟩:=ae hh
     refine bH 0 (fun s t H e=>match s with|s76j3=>∃v4j3:Nat,∃v8j3:Nat,∃v10j3:Nat,t 1=.sl false false p1.length (ab eU p1)∧t 2=.sl false false p2.length (ab (eI .i64) p2)∧t 3=.sl false false p3.length (ab (eI .i64) p3)∧t 4=.ptr 4 v4j3 0∧t 8=.ptr 8 v8j3 0∧t 10=.buf 10 v10j3 1 0 0∧t 76=.bool s76j3∧H 4=some ⟨v4j3,24,[.sl false false p0.ag.length (ab aq p0.ag)],false,false,false⟩∧H 8=some ⟨v8j3,24,[.sl true true 0 []],false,false,false⟩∧H 10=some ⟨v10j3,3,[],false,true,false⟩) (fun s=>s=o21) ?_ ?_
     ·rintro s76j3 t H e ⟨v4j3,v8j3,v10j3,Zj3⟩ rfl
      try dsimp only at hh
      try simp only[ax,ne_eq,not_false_eq_true,seval,-Int.reduceToNat,hr1,Zj3]
      refine sp an hh (fun _ hh =>?_) (fun _ hh =>?_)
      ·cases hh
       try simp only[ax,ne_eq,not_false_eq_true,seval,-Int.reduceToNat,hr1,Zj3]
      ·obtain⟨r23,hr23,hh⟩:=ae hh
       try simp only[ax,ne_eq,not_false_eq_true,seval,-Int.reduceToNat,hr1,Zj3,hr23]
       obtain⟨o33,ho33,hh⟩:=ae hh
       refine aB (fun s t H e=>match s with|(s85d,l10d,l1000014d)=>∃v8d:Nat,∃v10d:Nat,∃v14d:Nat,∃v1000014d:Nat,t 1=.sl false false p1.length (ab eU p1)∧t 2=.sl false false p2.length (ab (eI .i64) p2)∧t 3=.sl false false p3.length (ab (eI .i64) p3)∧t 8=.ptr 8 v8d 0∧t 10=.buf 10 v10d 1 0 (l10d).length∧t 14=.pm 14 v14d 1000014∧t 84=.int .i64 (p1.length:Int)∧t 85=.int .i64 s85d∧H 8=some ⟨v8d,24,[.sl true true 0 []],false,false,false⟩∧H 10=some ⟨v10d,3,ab (eI .i64) l10d,false,true,false⟩∧H 14=some ⟨v14d,110,[.ph 1000014 5 ((l1000014d).length)],false,false,true⟩∧H 1000014=some ⟨v1000014d,87,ab aq l1000014d,false,true,false⟩) (fun o x t H e=>match o with|(l10dx,l1000014dx)=>x=.exit 2∧∃v8dx:Nat,∃v10dx:Nat,∃v14dx:Nat,∃v1000014dx:Nat,t 8=.ptr 8 v8dx 0∧t 10=.buf 10 v10dx 1 0 (l10dx).length∧t 14=.pm 14 v14dx 1000014∧H 8=some ⟨v8dx,24,[.sl true true 0 []],false,false,false⟩∧H 10=some ⟨v10dx,3,ab (eI .i64) l10dx,false,true,false⟩∧H 14=some ⟨v14dx,110,[.ph 1000014 5 ((l1000014dx).length)],false,false,true⟩∧H 1000014=some ⟨v1000014dx,87,ab aq l1000014dx,false,true,false⟩) ho33 ?_ ?_ ?_
       ·refine⟨v8j3,v10j3,e,0,?_,?_,?_,?_,?_,?_,?_,?_,?_,?_,?_,?_⟩
        all_goals first|rfl|(simp only[ax,ne_eq,not_false_eq_true,seval,-Int.reduceToNat,hr1,Zj3,hr23]<;>rfl)
       ·rintro⟨s85d,l10d,l1000014d⟩ t H e ⟨v8d,v10d,v14d,v1000014d,Zd⟩ c hh
        simp only[ir]at hh
        try simp only[ax,ne_eq,not_false_eq_true,seval,-Int.reduceToNat,hr1,hr23,Zd]
        refine sp an hh (fun _ hh =>?_) (fun _ hh =>?_)
        ·obtain⟨x35,hx35,hh⟩:=ae hh
         have ax35:=bF eU hx35
         simp only[bU]at ax35
         obtain⟨x36,hx36,hh⟩:=ae hh
         have ax36:=bF (eI .i64) hx36
         simp only[bU]at ax36
         obtain⟨x37,hx37,hh⟩:=ae hh
         have ax37:=bF (eI .i64) hx37
         simp only[bU]at ax37
         obtain⟨r38,hr38,hh⟩:=ae hh
         obtain⟨x39,hx39,hh⟩:=ae hh
         obtain⟨q40w,q40a,q40b,q40c,q40d⟩:=vS l1000014d r38.bE r38.ay r38.aA r38.aY r38.aQ hx39
         try simp only[bU]at q40a
         obtain⟨x41,hx41,hh⟩:=ae hh
         obtain⟨q42a,q42b,q42c,q42d⟩:=fD (eI .i64) hx41
         simp only[bU]at q42b
         try simp only[ax,ne_eq,not_false_eq_true,seval,-Int.reduceToNat,hr1,hr23,Zd,ax35,ax36,ax37,hr38,q40a,q40b,q40c,q40d,q42a,q42b,q42c,q42d]
         refine bX (by kernel_rfl) ?_
         cases hh
         try simp only[ax,ne_eq,not_false_eq_true,seval,-Int.reduceToNat,hr1,hr23,Zd,ax35,ax36,ax37,hr38,q40a,q40b,q40c,q40d,q42a,q42b,q42c,q42d]
         refine iS ?_
         refine⟨v8d,e+1+1,v14d,v1000014d,?_,?_,?_,?_,?_,?_,?_,?_,?_,?_,?_,?_⟩
         all_goals first|rfl|(simp only[ax,ne_eq,not_false_eq_true,seval,-Int.reduceToNat,hr1,hr23,Zd,ax35,ax36,ax37,hr38,q40a,q40b,q40c,q40d,q42a,q42b,q42c,q42d]<;>rfl)
        ·cases hh
         try simp only[ax,ne_eq,not_false_eq_true,seval,-Int.reduceToNat,hr1,hr23,Zd]
         refine ki ?_
         refine⟨rfl,⟨v8d,v10d,v14d,v1000014d,?_,?_,?_,?_,?_,?_,?_⟩⟩
         all_goals first|rfl|(simp only[ax,ne_eq,not_false_eq_true,seval,-Int.reduceToNat,hr1,hr23,Zd]<;>rfl)
       ·rintro x t H e hx
        rcases o33 with⟨l10dx,l1000014dx⟩
        dsimp only at hx hh
        obtain⟨rfl,⟨v8dx,v10dx,v14dx,v1000014dx,Zdx⟩⟩:=hx
        obtain⟨r43,hr43,hh⟩:=ae hh
        try simp only[ax,ne_eq,not_false_eq_true,seval,-Int.reduceToNat,hr1,hr23,Zdx,hr43]
        obtain⟨o66,ho66,hh⟩:=ae hh
        refine aB (fun s t H e=>match s with|(l16e,l1000014e)=>∃v8e:Nat,∃v10e:Nat,∃v14e:Nat,∃v16e:Nat,∃v1000014e:Nat,t 8=.ptr 8 v8e 0∧t 10=.buf 10 v10e 1 0 (l10dx).length∧t 14=.pm 14 v14e 1000014∧t 16=.buf 16 v16e 1 0 (l16e).length∧H 8=some ⟨v8e,24,[.sl true true 0 []],false,false,false⟩∧H 10=some ⟨v10e,3,ab (eI .i64) l10dx,false,true,false⟩∧H 14=some ⟨v14e,110,[.ph 1000014 5 ((l1000014e).length)],false,false,true⟩∧H 16=some ⟨v16e,3,ab (eI .i64) l16e,false,true,false⟩∧H 1000014=some ⟨v1000014e,87,ab aq l1000014e,false,true,false⟩) (fun o x t H e=>match o with|(l16ex,l1000014ex)=>x=.exit 4∧∃v8ex:Nat,∃v10ex:Nat,∃v14ex:Nat,∃v16ex:Nat,∃v1000014ex:Nat,t 8=.ptr 8 v8ex 0∧t 10=.buf 10 v10ex 1 0 (l10dx).length∧t 14=.pm 14 v14ex 1000014∧t 16=.buf 16 v16ex 1 0 (l16ex).length∧H 8=some ⟨v8ex,24,[.sl true true 0 []],false,false,false⟩∧H 10=some ⟨v10ex,3,ab (eI .i64) l10dx,false,true,false⟩∧H 14=some ⟨v14ex,110,[.ph 1000014 5 ((l1000014ex).length)],false,false,true⟩∧H 16=some ⟨v16ex,3,ab (eI .i64) l16ex,false,true,false⟩∧H 1000014=some ⟨v1000014ex,87,ab aq l1000014ex,false,true,false⟩) ho66 ?_ ?_ ?_
        ·refine⟨v8dx,v10dx,v14dx,e,v1000014dx,?_,?_,?_,?_,?_,?_,?_,?_,?_⟩
         all_goals first|rfl|(simp only[ax,ne_eq,not_false_eq_true,seval,-Int.reduceToNat,hr1,hr23,Zdx,hr43]<;>rfl)
        ·rintro⟨l16e,l1000014e⟩ t H e ⟨v8e,v10e,v14e,v16e,v1000014e,Ze⟩ c hh
         simp only[fZ]at hh
         try simp only[ax,ne_eq,not_false_eq_true,seval,-Int.reduceToNat,hr1,hr23,hr43,Ze]
         refine sp an hh (fun _ hh =>?_) (fun _ hh =>?_)
         ·try simp only[ax,ne_eq,not_false_eq_true,seval,-Int.reduceToNat,hr1,hr23,hr43,Ze]
          obtain⟨o75,ho75,hh⟩:=ae hh
          refine aB (fun s t H e=>match s with|(s18g,l17g,l1000014g)=>∃v8g:Nat,∃v10g:Nat,∃v14g:Nat,∃v16g:Nat,∃v17g:Nat,∃v1000014g:Nat,t 8=.ptr 8 v8g 0∧t 10=.buf 10 v10g 1 0 (l10dx).length∧t 14=.pm 14 v14g 1000014∧t 16=.buf 16 v16g 1 0 (l16e).length∧t 17=.buf 17 v17g 1 0 (l17g).length∧t 18=.int .i64 s18g∧H 8=some ⟨v8g,24,[.sl true true 0 []],false,false,false⟩∧H 10=some ⟨v10g,3,ab (eI .i64) l10dx,false,true,false⟩∧H 14=some ⟨v14g,110,[.ph 1000014 5 ((l1000014g).length)],false,false,true⟩∧H 16=some ⟨v16g,3,ab (eI .i64) l16e,false,true,false⟩∧H 17=some ⟨v17g,3,ab (eI .i64) l17g,false,true,false⟩∧H 1000014=some ⟨v1000014g,87,ab aq l1000014g,false,true,false⟩) (fun o x t H e=>match o with|(l17gx,l1000014gx)=>x=.exit 6∧∃v8gx:Nat,∃v10gx:Nat,∃v14gx:Nat,∃v16gx:Nat,∃v17gx:Nat,∃v1000014gx:Nat,t 8=.ptr 8 v8gx 0∧t 10=.buf 10 v10gx 1 0 (l10dx).length∧t 14=.pm 14 v14gx 1000014∧t 16=.buf 16 v16gx 1 0 (l16e).length∧t 17=.buf 17 v17gx 1 0 (l17gx).length∧H 8=some ⟨v8gx,24,[.sl true true 0 []],false,false,false⟩∧H 10=some ⟨v10gx,3,ab (eI .i64) l10dx,false,true,false⟩∧H 14=some ⟨v14gx,110,[.ph 1000014 5 ((l1000014gx).length)],false,false,true⟩∧H 16=some ⟨v16gx,3,ab (eI .i64) l16e,false,true,false⟩∧H 17=some ⟨v17gx,3,ab (eI .i64) l17gx,false,true,false⟩∧H 1000014=some ⟨v1000014gx,87,ab aq l1000014gx,false,true,false⟩) ho75 ?_ ?_ ?_
          ·refine⟨v8e,v10e,v14e,v16e,e+1,v1000014e,?_,?_,?_,?_,?_,?_,?_,?_,?_,?_,?_,?_⟩
           all_goals first|rfl|(simp only[ax,ne_eq,not_false_eq_true,seval,-Int.reduceToNat,hr1,hr23,hr43,Ze]<;>rfl)
          ·rintro⟨s18g,l17g,l1000014g⟩ t H e ⟨v8g,v10g,v14g,v16g,v17g,v1000014g,Zg⟩ c hh
           simp only[iu]at hh
           try simp only[ax,ne_eq,not_false_eq_true,seval,-Int.reduceToNat,hr1,hr23,hr43,Zg]
           refine sp an hh (fun _ hh =>?_) (fun _ hh =>?_)
           ·obtain⟨x77,hx77,hh⟩:=ae hh
            have ax77:=bF (eI .i64) hx77
            simp only[bU]at ax77
            obtain⟨x78,hx78,hh⟩:=ae hh
            have ax78:=bF (eI .i64) hx78
            simp only[bU]at ax78
            obtain⟨x79,hx79,hh⟩:=ae hh
            obtain⟨q80w,q80a,q80b,q80c,q80d⟩:=uO l1000014g x77 x78 hx79
            try simp only[bU]at q80a
            obtain⟨x81,hx81,hh⟩:=ae hh
            obtain⟨q82a,q82b,q82c,q82d⟩:=fD (eI .i64) hx81
            simp only[bU]at q82b
            try simp only[ax,ne_eq,not_false_eq_true,seval,-Int.reduceToNat,hr1,hr23,hr43,Zg,ax77,ax78,q80a,q80b,q80c,q80d,q82a,q82b,q82c,q82d]
            refine bX (by kernel_rfl) ?_
            cases hh
            try simp only[ax,ne_eq,not_false_eq_true,seval,-Int.reduceToNat,hr1,hr23,hr43,Zg,ax77,ax78,q80a,q80b,q80c,q80d,q82a,q82b,q82c,q82d]
            refine iS ?_
            refine⟨v8g,v10g,v14g,v16g,e+1,v1000014g,?_,?_,?_,?_,?_,?_,?_,?_,?_,?_,?_,?_⟩
            all_goals first|rfl|(simp only[ax,ne_eq,not_false_eq_true,seval,-Int.reduceToNat,hr1,hr23,hr43,Zg,ax77,ax78,q80a,q80b,q80c,q80d,q82a,q82b,q82c,q82d]<;>rfl)
           ·cases hh
            try simp only[ax,ne_eq,not_false_eq_true,seval,-Int.reduceToNat,hr1,hr23,hr43,Zg]
            refine ki ?_
            refine⟨rfl,⟨v8g,v10g,v14g,v16g,v17g,v1000014g,?_,?_,?_,?_,?_,?_,?_,?_,?_,?_,?_⟩⟩
            all_goals first|rfl|(simp only[ax,ne_eq,not_false_eq_true,seval,-Int.reduceToNat,hr1,hr23,hr43,Zg]<;>rfl)
          ·rintro x t H e hx
           rcases o75 with⟨l17gx,l1000014gx⟩
           dsimp only at hx hh
           obtain⟨rfl,⟨v8gx,v10gx,v14gx,v16gx,v17gx,v1000014gx,Zgx⟩⟩:=hx
           obtain⟨x83,hx83,hh⟩:=ae hh
           have q84:=oR hx83
           try simp only[ax,ne_eq,not_false_eq_true,seval,-Int.reduceToNat,hr1,hr23,hr43,Zgx,q84]
           refine sp an hh (fun _ hh =>?_) (fun _ hh =>?_)
           ·obtain⟨x86,hx86,hh⟩:=ae hh
            have ax86:=bF (eI .i64) hx86
            simp only[bU]at ax86
            obtain⟨x87,hx87,hh⟩:=ae hh
            obtain⟨q88a,q88b,q88c,q88d⟩:=fD (eI .i64) hx87
            simp only[bU]at q88b
            cases hh
            try simp only[ax,ne_eq,not_false_eq_true,seval,-Int.reduceToNat,hr1,hr23,hr43,Zgx,q84,ax86,q88a,q88b,q88c,q88d]
            refine iS ?_
            refine⟨v8gx,v10gx,v14gx,e+1+1,v1000014gx,?_,?_,?_,?_,?_,?_,?_,?_,?_⟩
            all_goals first|rfl|(simp only[ax,ne_eq,not_false_eq_true,seval,-Int.reduceToNat,hr1,hr23,hr43,Zgx,q84,ax86,q88a,q88b,q88c,q88d]<;>rfl)
           ·cases hh
            try simp only[ax,ne_eq,not_false_eq_true,seval,-Int.reduceToNat,hr1,hr23,hr43,Zgx,q84]
            refine iS ?_
            refine⟨v8gx,v10gx,v14gx,e+1,v1000014gx,?_,?_,?_,?_,?_,?_,?_,?_,?_⟩
            all_goals first|rfl|(simp only[ax,ne_eq,not_false_eq_true,seval,-Int.reduceToNat,hr1,hr23,hr43,Zgx,q84]<;>rfl)
         ·cases hh
          try simp only[ax,ne_eq,not_false_eq_true,seval,-Int.reduceToNat,hr1,hr23,hr43,Ze]
          refine ki ?_
          refine⟨rfl,⟨v8e,v10e,v14e,v16e,v1000014e,?_,?_,?_,?_,?_,?_,?_,?_,?_⟩⟩
          all_goals first|rfl|(simp only[ax,ne_eq,not_false_eq_true,seval,-Int.reduceToNat,hr1,hr23,hr43,Ze]<;>rfl)
        ·rintro x t H e hx
         rcases o66 with⟨l16ex,l1000014ex⟩
         dsimp only at hx hh
         obtain⟨rfl,⟨v8ex,v10ex,v14ex,v16ex,v1000014ex,Zex⟩⟩:=hx
         obtain⟨x89,hx89,hh⟩:=ae hh
         have ax89:=bF (eI .i64) hx89
         simp only[bU]at ax89
         try simp only[ax,ne_eq,not_false_eq_true,seval,-Int.reduceToNat,hr1,hr23,hr43,Zex,ax89]
         refine bX (by kernel_rfl) ?_
         cases hh
         try simp only[ax,ne_eq,not_false_eq_true,seval,-Int.reduceToNat,hr1,hr23,hr43,Zex,ax89]
     ·clear hh
      have hh:=ho21
      try simp only[ax,ne_eq,not_false_eq_true,seval,-Int.reduceToNat,hr1,Zbx]
      refine sp aR hh (fun _ hh =>?_) (fun _ hh =>?_)
      ·cases hh
       try simp only[ax,ne_eq,not_false_eq_true,seval,-Int.reduceToNat,hr1,Zbx]
       rw[al]
       refine⟨_,rfl,?_⟩
       refine⟨v4bx,v8bx,v10bx,?_,?_,?_,?_,?_,?_,?_,?_,?_,?_⟩
       all_goals first|rfl|(simp only[ax,ne_eq,not_false_eq_true,seval,-Int.reduceToNat,hr1,Zbx]<;>rfl)
      ·cases hh
       try simp only[ax,ne_eq,not_false_eq_true,seval,-Int.reduceToNat,hr1,Zbx]
       rw[al]
       refine⟨_,rfl,?_⟩
       refine⟨v4bx,v8bx,v10bx,?_,?_,?_,?_,?_,?_,?_,?_,?_,?_⟩
       all_goals first|rfl|(simp only[ax,ne_eq,not_false_eq_true,seval,-Int.reduceToNat,hr1,Zbx]<;>rfl)
    ·dsimp only at hx hh
     obtain⟨rfl,hE⟩:=hx
     cases hh
     try simp only[bq,bc,bC,cP,cO]
     exact hE
 ·clear hh
  have hh:=ho2
  try simp only[ax,ne_eq,not_false_eq_true,seval,-Int.reduceToNat,hr1]
  refine sp aR hh (fun _ hh =>?_) (fun _ hh =>?_)
  ·cases hh
   try simp only[ax,ne_eq,not_false_eq_true,seval,-Int.reduceToNat,hr1]
   rw[al]
   refine⟨_,rfl,?_⟩
   refine⟨0,0,0,?_,?_,?_,?_,?_,?_,?_,?_,?_,?_,?_⟩
   all_goals first|rfl|(simp only[ax,ne_eq,not_false_eq_true,seval,-Int.reduceToNat,hr1]<;>rfl)
  ·try simp only[ax,ne_eq,not_false_eq_true,seval,-Int.reduceToNat,hr1]
   refine sp aR hh (fun _ hh =>?_) (fun _ hh =>?_)
   ·cases hh
    try simp only[ax,ne_eq,not_false_eq_true,seval,-Int.reduceToNat,hr1]
    rw[al]
    refine⟨_,rfl,?_⟩
    refine⟨0,0,0,?_,?_,?_,?_,?_,?_,?_,?_,?_,?_,?_⟩
    all_goals first|rfl|(simp only[ax,ne_eq,not_false_eq_true,seval,-Int.reduceToNat,hr1]<;>rfl)
   ·try simp only[ax,ne_eq,not_false_eq_true,seval,-Int.reduceToNat,hr1]
    refine sp aR hh (fun _ hh =>?_) (fun _ hh =>?_)
    ·cases hh
     try simp only[ax,ne_eq,not_false_eq_true,seval,-Int.reduceToNat,hr1]
     rw[al]
     refine⟨_,rfl,?_⟩
     refine⟨0,0,0,?_,?_,?_,?_,?_,?_,?_,?_,?_,?_,?_⟩
     all_goals first|rfl|(simp only[ax,ne_eq,not_false_eq_true,seval,-Int.reduceToNat,hr1]<;>rfl)
    ·cases hh
     try simp only[ax,ne_eq,not_false_eq_true,seval,-Int.reduceToNat,hr1]
     rw[al]
     refine⟨_,rfl,?_⟩
     refine⟨0,0,0,?_,?_,?_,?_,?_,?_,?_,?_,?_,?_,?_⟩
     all_goals first|rfl|(simp only[ax,ne_eq,not_false_eq_true,seval,-Int.reduceToNat,hr1]<;>rfl)
theorem vd:bN Tryz.prog 37 mK:=bN.of (mode := .clean) tok Dy mixed Tryz.func37 (by kernel_rfl) ⟨by kernel_rfl,by kernel_rfl⟩ (fun _=>Nat.le_of_ble_eq_true (by kernel_rfl)) (fun x r h=>Hd x.1 x.2.1 x.2.2.1 x.2.2.2 r h)
noncomputable def nI:=eB (dR (iG (eI .i64)) (dK (iG (eI .i64)))) (fun x:(List Int)×(List Int)=>fR x.1 x.2) (fun r:Bool =>.clean (.bool r))
theorem kL (p0:(List Int)) (p1:(List Int)):nI none [.sl false false p0.length (ab (eI .i64) p0),.sl false false p1.length (ab (eI .i64) p1)]=(fR p0 p1).map fun r:Bool=>(.clean (.bool r),none):=aJ _ _ _ (p0,p1)
theorem Ch (p0:(List Int)) (p1:(List Int)) (r:Bool) (hh:fR p0 p1=some r):aS .clean tab aU FU Tryz.f18 none [.sl false false p0.length (ab (eI .i64) p0),.sl false false p1.length (ab (eI .i64) p1)]=some (.clean (.bool r),none):=by
 refine aw rfl Tryz.ntmps18 Tryz.results18 ?_
 unfold fR at hh
 try simp only[w,seval,-Int.reduceToNat]
 refine sp an hh (fun _ hh =>?_) (fun _ hh =>?_)
 ·cases hh
  try simp only[w,seval,-Int.reduceToNat]
 ·try simp only[w,seval,-Int.reduceToNat]
  obtain⟨o6,ho6,hh⟩:=ae hh
  refine aB (fun s t H e=>match s with|s5a=>t 0=.sl false false p0.length (ab (eI .i64) p0)∧t 1=.sl false false p1.length (ab (eI .i64) p1)∧t 5=.int .i64 s5a) (fun o x t H e=>match o with|(.inl _)=>x=.exit 0|(.inr r)=>x=.ret∧gj .clean tab none [.tmp 4] ⟨t,H,e⟩=some (.clean (.bool r),none)) ho6 ?_ ?_ ?_
  ·refine⟨?_,?_,?_⟩
   all_goals first|rfl|(simp only[w,seval,-Int.reduceToNat]<;>rfl)
  ·rintro s5a t H e Za c hh
   simp only[rT]at hh
   try simp only[w,seval,-Int.reduceToNat,Za]
   refine sp an hh (fun _ hh =>?_) (fun _ hh =>?_)
   ·obtain⟨x8,hx8,hh⟩:=ae hh
    have ax8:=bF (eI .i64) hx8
    simp only[bU]at ax8
    obtain⟨x9,hx9,hh⟩:=ae hh
    have ax9:=bF (eI .i64) hx9
    simp only[bU]at ax9
    try simp only[w,seval,-Int.reduceToNat,Za,ax8,ax9]
    refine bX (by kernel_rfl) ?_
    try simp only[w,seval,-Int.reduceToNat,Za,ax8,ax9]
    refine sp an hh (fun _ hh =>?_) (fun _ hh =>?_)
    ·cases hh
     try simp only[w,seval,-Int.reduceToNat,Za,ax8,ax9]
     refine ti ⟨rfl,?_⟩
     try simp only[w,seval,-Int.reduceToNat,Za,ax8,ax9]
    ·cases hh
     try simp only[w,seval,-Int.reduceToNat,Za,ax8,ax9]
     refine iS ?_
     refine⟨?_,?_,?_⟩
     all_goals first|rfl|(simp only[w,seval,-Int.reduceToNat,Za,ax8,ax9]<;>rfl)
   ·cases hh
    try simp only[w,seval,-Int.reduceToNat,Za]
    refine ki ?_
    exact rfl
  ·rintro x t H e hx
   rcases o6 with _|ra
   ·dsimp only at hx hh
    subst hx
    cases hh
    try simp only[w,seval,-Int.reduceToNat]
   ·dsimp only at hx hh
    obtain⟨rfl,hE⟩:=hx
    cases hh
    try simp only[bq,bc,bC,cP,cO]
    exact hE
theorem Ad:bN Tryz.prog 18 nI:=bN.of (mode := .clean) tok bT.none mixed Tryz.func18 (by kernel_rfl) ⟨by kernel_rfl,by kernel_rfl⟩ (fun _=>Nat.le_of_ble_eq_true (by kernel_rfl)) (fun x r h=>Ch x.1 x.2 r h)
noncomputable def jK:=eB (dK (iG (eI .i64))) (fun x:(List Int)=>fQ x) (fun r:(List Int) =>.clean (.sl false false r.length (ab (eI .i64) r)))
theorem fB (p0:(List Int)):jK none [.sl false false p0.length (ab (eI .i64) p0)]=(fQ p0).map fun r:(List Int)=>(.clean (.sl false false r.length (ab (eI .i64) r)),none):=aJ _ _ _ (p0)
theorem MC (p0:(List Int)) (r:(List Int)) (hh:fQ p0=some r):aS .clean tab aU FU Tryz.f169 none [.sl false false p0.length (ab (eI .i64) p0)]=some (.clean (.sl false false r.length (ab (eI .i64) r)),none):=by
 refine aw rfl Tryz.ntmps169 Tryz.results169 ?_
 unfold fQ at hh
 try simp only[w,seval,-Int.reduceToNat]
 obtain⟨o4,ho4,hh⟩:=ae hh
 refine aB (fun s t H e=>match s with|s3a=>t 0=.sl false false p0.length (ab (eI .i64) p0)∧t 3=.int .i64 s3a) (fun o x t H e=>match o with|s3ax=>x=.exit 0∧t 0=.sl false false p0.length (ab (eI .i64) p0)∧t 3=.int .i64 s3ax) ho4 ?_ ?_ ?_
 ·refine⟨?_,?_⟩
  all_goals first|rfl|(simp only[w,seval,-Int.reduceToNat]<;>rfl)
 ·rintro s3a t H e Za c hh
  simp only[tF]at hh
  try simp only[w,seval,-Int.reduceToNat,Za]
  refine sp bk hh (fun _ hh =>?_) (fun _ hh =>?_)
  ·obtain⟨x6,hx6,hh⟩:=ae hh
   have ax6:=bF (eI .i64) hx6
   simp only[bU]at ax6
   try simp only[w,seval,-Int.reduceToNat,Za,ax6]
   refine sp an hh (fun _ hh =>?_) (fun _ hh =>?_)
   ·cases hh
    try simp only[w,seval,-Int.reduceToNat,Za,ax6]
    refine iS ?_
    refine⟨?_,?_⟩
    all_goals first|rfl|(simp only[w,seval,-Int.reduceToNat,Za,ax6]<;>rfl)
   ·cases hh
    try simp only[w,seval,-Int.reduceToNat,Za,ax6]
    refine ki ?_
    refine⟨rfl,⟨?_,?_⟩⟩
    all_goals first|rfl|(simp only[w,seval,-Int.reduceToNat,Za,ax6]<;>rfl)
  ·cases hh
   try simp only[w,seval,-Int.reduceToNat,Za]
   refine ki ?_
   refine⟨rfl,⟨?_,?_⟩⟩
   all_goals first|rfl|(simp only[w,seval,-Int.reduceToNat,Za]<;>rfl)
 ·rintro x t H e hx
  obtain⟨s3ax,rfl⟩:∃z,z=o4:=⟨_,rfl⟩
  dsimp only at hx hh
  obtain⟨rfl,Zax⟩:=hx
  obtain⟨x8,hx8,hh⟩:=ae hh
  obtain⟨q9a,q9b,q9c,q9d,q9e⟩:=CW (eI .i64) hx8
  simp only[bU]at q9e
  obtain⟨x10,hx10,hh⟩:=ae hh
  obtain⟨q11a,q11b,q11c⟩:=qk hx10
  replace q11a:=q11a.symm
  subst q11a
  cases hh
  try simp only[w,seval,-Int.reduceToNat,Zax,q9a,q9b,q9c,q9d,q9e,q11b,q11c]
theorem me:bN Tryz.prog 169 jK:=bN.of (mode := .clean) tok bT.none mixed Tryz.func169 (by kernel_rfl) ⟨by kernel_rfl,by kernel_rfl⟩ (fun _=>Nat.le_of_ble_eq_true (by kernel_rfl)) (fun x r h=>MC x r h)
noncomputable def lk:=eB (dR (aI .i64) (dK (iG (eI .i64)))) (fun x:Int×(List Int)=>fC x.1 x.2) (fun r:az =>.clean (.agg [.int .i64 r.aj,.sl false false r.aa.length (ab (eI .i64) r.aa)]))
theorem iT (p0:Int) (p1:(List Int)):lk none [.int .i64 p0,.sl false false p1.length (ab (eI .i64) p1)]=(fC p0 p1).map fun r:az=>(.clean (.agg [.int .i64 r.aj,.sl false false r.aa.length (ab (eI .i64) r.aa)]),none):=aJ _ _ _ (p0,p1)
noncomputable def qH:Env:=(Am.ext aU 169 false jK)
theorem Js:bT Tryz.prog qH:=(bT.none.add me false)
theorem v8:type_of% (ai @w<|ai @fB<|@qH.eq_1):=⟨@w,@fB,@qH.eq_1⟩
theorem Mz (p0:Int) (p1:(List Int)) (r:az) (hh:fC p0 p1=some r):aS .clean tab qH FU Tryz.f133 none [.int .i64 p0,.sl false false p1.length (ab (eI .i64) p1)]=some (.clean (.agg [.int .i64 r.aj,.sl false false r.aa.length (ab (eI .i64) r.aa)]),none):=by
 refine aw rfl Tryz.ntmps133 Tryz.results133 ?_
 unfold fC at hh
 obtain⟨r1,hr1,hh⟩:=ae hh
 try simp only[v8,seval,-Int.reduceToNat,hr1]
 refine sp an hh (fun _ hh =>?_) (fun _ hh =>?_)
 ·cases hh
  try simp only[v8,seval,-Int.reduceToNat,hr1]
 ·cases hh
  try simp only[v8,seval,-Int.reduceToNat,hr1]
theorem oS:bN Tryz.prog 133 lk:=bN.of (mode := .clean) tok Js mixed Tryz.func133 (by kernel_rfl) ⟨by kernel_rfl,by kernel_rfl⟩ (fun _=>Nat.le_of_ble_eq_true (by kernel_rfl)) (fun x r h=>Mz x.1 x.2 r h)
noncomputable def AF:=eB (dK (aI .i64)) (fun x:Int=>qV x) (fun r:az =>.clean (.agg [.int .i64 r.aj,.sl false false r.aa.length (ab (eI .i64) r.aa)]))
theorem KS (p0:Int):AF none [.int .i64 p0]=(qV p0).map fun r:az=>(.clean (.agg [.int .i64 r.aj,.sl false false r.aa.length (ab (eI .i64) r.aa)]),none):=aJ _ _ _ (p0)
noncomputable def wQ:Env:=(Am.ext aU 133 false lk)
theorem PV:bT Tryz.prog wQ:=(bT.none.add oS false)
theorem eo:type_of% (ai @w<|ai @iT<|@wQ.eq_1):=⟨@w,@iT,@wQ.eq_1⟩
theorem Sq (p0:Int) (r:az) (hh:qV p0=some r):aS .clean tab wQ FU Tryz.f103 none [.int .i64 p0]=some (.clean (.agg [.int .i64 r.aj,.sl false false r.aa.length (ab (eI .i64) r.aa)]),none):=by
 refine aw rfl Tryz.ntmps103 Tryz.results103 ?_
 unfold qV at hh
 try simp only[eo,seval,-Int.reduceToNat]
 refine sp an hh (fun _ hh =>?_) (fun _ hh =>?_)
 ·cases hh
  try simp only[eo,seval,-Int.reduceToNat]
 ·try simp only[eo,seval,-Int.reduceToNat]
  obtain⟨o2,ho2,hh⟩:=ae hh
  refine kX 0 (fun s t H e=>match s with|s3j1=>∃v2j1:Nat,t 0=.int .i64 p0∧t 2=.ptr 2 v2j1 0∧t 3=.int .i64 s3j1∧H 2=some ⟨v2j1,49,[.int .i64 0,.sl true true 0 []],false,false,false⟩) (fun s=>s=o2) ?_ ?_
  ·rintro s3j1 t H e ⟨v2j1,Zj1⟩ rfl
   try dsimp only at hh
   try simp only[eo,seval,-Int.reduceToNat,Zj1]
   obtain⟨o15,ho15,hh⟩:=ae hh
   refine aB (fun s t H e=>match s with|(s0b,l4b)=>∃v2b:Nat,∃v4b:Nat,t 0=.int .i64 s0b∧t 2=.ptr 2 v2b 0∧t 3=.int .i64 s3j1∧t 4=.buf 4 v4b 1 0 (l4b).length∧H 2=some ⟨v2b,49,[.int .i64 0,.sl true true 0 []],false,false,false⟩∧H 4=some ⟨v4b,3,ab (eI .i64) l4b,false,true,false⟩) (fun o x t H e=>match o with|l4bx=>x=.exit 0∧∃v2bx:Nat,∃v4bx:Nat,t 2=.ptr 2 v2bx 0∧t 3=.int .i64 s3j1∧t 4=.buf 4 v4bx 1 0 (l4bx).length∧H 2=some ⟨v2bx,49,[.int .i64 0,.sl true true 0 []],false,false,false⟩∧H 4=some ⟨v4bx,3,ab (eI .i64) l4bx,false,true,false⟩) ho15 ?_ ?_ ?_
   ·refine⟨v2j1,e,?_,?_,?_,?_,?_,?_⟩
    all_goals first|rfl|(simp only[eo,seval,-Int.reduceToNat,Zj1]<;>rfl)
   ·rintro⟨s0b,l4b⟩ t H e ⟨v2b,v4b,Zb⟩ c hh
    simp only[uu]at hh
    try simp only[eo,seval,-Int.reduceToNat,Zb]
    refine sp an hh (fun _ hh =>?_) (fun _ hh =>?_)
    ·obtain⟨x17,hx17,hh⟩:=ae hh
     have q18:=oR hx17
     try simp only[eo,seval,-Int.reduceToNat,Zb,q18]
     refine sp an hh (fun _ hh =>?_) (fun _ hh =>?_)
     ·obtain⟨x20,hx20,hh⟩:=ae hh
      obtain⟨q21a,q21b,q21c,q21d⟩:=fD (eI .i64) hx20
      simp only[bU]at q21b
      obtain⟨x22,hx22,hh⟩:=ae hh
      have q23:=qz hx22
      cases hh
      try simp only[eo,seval,-Int.reduceToNat,Zb,q18,q21a,q21b,q21c,q21d,q23]
      refine iS ?_
      refine⟨v2b,e+1+1+1+1,?_,?_,?_,?_,?_,?_⟩
      all_goals first|rfl|(simp only[eo,seval,-Int.reduceToNat,Zb,q18,q21a,q21b,q21c,q21d,q23]<;>rfl)
     ·obtain⟨x24,hx24,hh⟩:=ae hh
      obtain⟨q25a,q25b,q25c,q25d⟩:=fD (eI .i64) hx24
      simp only[bU]at q25b
      obtain⟨x26,hx26,hh⟩:=ae hh
      have q27:=qz hx26
      cases hh
      try simp only[eo,seval,-Int.reduceToNat,Zb,q18,q25a,q25b,q25c,q25d,q27]
      refine iS ?_
      refine⟨v2b,e+1+1+1,?_,?_,?_,?_,?_,?_⟩
      all_goals first|rfl|(simp only[eo,seval,-Int.reduceToNat,Zb,q18,q25a,q25b,q25c,q25d,q27]<;>rfl)
    ·cases hh
     try simp only[eo,seval,-Int.reduceToNat,Zb]
     refine ki ?_
     refine⟨rfl,⟨v2b,v4b,?_,?_,?_,?_,?_⟩⟩
     all_goals first|rfl|(simp only[eo,seval,-Int.reduceToNat,Zb]<;>rfl)
   ·rintro x t H e hx
    obtain⟨l4bx,rfl⟩:∃z,z=o15:=⟨_,rfl⟩
    dsimp only at hx hh
    obtain⟨rfl,⟨v2bx,v4bx,Zbx⟩⟩:=hx
    obtain⟨r28,hr28,hh⟩:=ae hh
    cases hh
    try simp only[eo,seval,-Int.reduceToNat,Zbx,hr28]
  ·clear hh
   have hh:=ho2
   try simp only[eo,seval,-Int.reduceToNat]
   refine sp an hh (fun _ hh =>?_) (fun _ hh =>?_)
   ·cases hh
    try simp only[eo,seval,-Int.reduceToNat]
    rw[al]
    refine⟨_,rfl,?_⟩
    refine⟨0,?_,?_,?_,?_⟩
    all_goals first|rfl|(simp only[eo,seval,-Int.reduceToNat]<;>rfl)
   ·cases hh
    try simp only[eo,seval,-Int.reduceToNat]
    rw[al]
    refine⟨_,rfl,?_⟩
    refine⟨0,?_,?_,?_,?_⟩
    all_goals first|rfl|(simp only[eo,seval,-Int.reduceToNat]<;>rfl)
theorem Qn:bN Tryz.prog 103 AF:=bN.of (mode := .clean) tok PV mixed Tryz.func103 (by kernel_rfl) ⟨by kernel_rfl,by kernel_rfl⟩ (fun _=>Nat.le_of_ble_eq_true (by kernel_rfl)) (fun x r h=>Sq x r h)
noncomputable def jY:=eB (dK (cR iB)) (fun x:az=>dn x) (fun r:Bool =>.clean (.bool r))
theorem gK (p0_0:Int) (p0_1:(List Int)):jY none [.agg [.int .i64 p0_0,.sl false false p0_1.length (ab (eI .i64) p0_1)]]=(dn (az.mk p0_0 p0_1)).map fun r:Bool=>(.clean (.bool r),none):=aJ _ _ _ ((az.mk p0_0 p0_1))
theorem Ka (p0:az) (r:Bool) (hh:dn p0=some r):aS .clean tab aU FU Tryz.f111 none [.agg [.int .i64 p0.aj,.sl false false p0.aa.length (ab (eI .i64) p0.aa)]]=some (.clean (.bool r),none):=by
 refine aw rfl Tryz.ntmps111 Tryz.results111 ?_
 unfold dn at hh
 try simp only[w,seval,-Int.reduceToNat]
 obtain⟨o5,ho5,hh⟩:=ae hh
 refine aB (fun s t H e=>match s with|s3a=>∃v1a:Nat,t 1=.ptr 1 v1a 0∧t 3=.int .i64 s3a∧H 1=some ⟨v1a,49,[.int .i64 p0.aj,.sl false false p0.aa.length (ab (eI .i64) p0.aa)],false,false,false⟩) (fun o x t H e=>match o with|(.inl _)=>x=.exit 0∧∃v1ax:Nat,t 1=.ptr 1 v1ax 0∧H 1=some ⟨v1ax,49,[.int .i64 p0.aj,.sl false false p0.aa.length (ab (eI .i64) p0.aa)],false,false,false⟩|(.inr r)=>x=.ret∧gj .clean tab none [.tmp 2] ⟨t,H,e⟩=some (.clean (.bool r),none)) ho5 ?_ ?_ ?_
 ·refine⟨0,?_,?_,?_⟩
  all_goals first|rfl|(simp only[w,seval,-Int.reduceToNat]<;>rfl)
 ·rintro s3a t H e ⟨v1a,Za⟩ c hh
  simp only[nt]at hh
  try simp only[w,seval,-Int.reduceToNat,Za]
  refine sp an hh (fun _ hh =>?_) (fun _ hh =>?_)
  ·obtain⟨x7,hx7,hh⟩:=ae hh
   have ax7:=bF (eI .i64) hx7
   simp only[bU]at ax7
   try simp only[w,seval,-Int.reduceToNat,Za,ax7]
   refine sp aR hh (fun _ hh =>?_) (fun _ hh =>?_)
   ·cases hh
    try simp only[w,seval,-Int.reduceToNat,Za,ax7]
    refine ti ⟨rfl,?_⟩
    try simp only[w,seval,-Int.reduceToNat,Za,ax7]
   ·have ax7:=bF (eI .i64) hx7
    simp only[bU]at ax7
    try simp only[w,seval,-Int.reduceToNat,Za,ax7,ax7]
    refine sp an hh (fun _ hh =>?_) (fun _ hh =>?_)
    ·cases hh
     try simp only[w,seval,-Int.reduceToNat,Za,ax7,ax7]
     refine ti ⟨rfl,?_⟩
     try simp only[w,seval,-Int.reduceToNat,Za,ax7,ax7]
    ·cases hh
     try simp only[w,seval,-Int.reduceToNat,Za,ax7,ax7]
     refine iS ?_
     refine⟨v1a,?_,?_,?_⟩
     all_goals first|rfl|(simp only[w,seval,-Int.reduceToNat,Za,ax7,ax7]<;>rfl)
  ·cases hh
   try simp only[w,seval,-Int.reduceToNat,Za]
   refine ki ?_
   refine⟨rfl,⟨v1a,?_,?_⟩⟩
   all_goals first|rfl|(simp only[w,seval,-Int.reduceToNat,Za]<;>rfl)
 ·rintro x t H e hx
  rcases o5 with _|ra
  ·dsimp only at hx hh
   obtain⟨rfl,⟨v1ax,Zax⟩⟩:=hx
   try simp only[w,seval,-Int.reduceToNat,Zax]
   obtain⟨o10,ho10,hh⟩:=ae hh
   refine bH 0 (fun s t H e=>match s with|s44j2=>∃v1j2:Nat,t 1=.ptr 1 v1j2 0∧t 4=.int .i64 (p0.aa.length:Int)∧t 44=.bool s44j2∧H 1=some ⟨v1j2,49,[.int .i64 p0.aj,.sl false false p0.aa.length (ab (eI .i64) p0.aa)],false,false,false⟩) (fun s=>s=o10) ?_ ?_
   ·rintro s44j2 t H e ⟨v1j2,Zj2⟩ rfl
    try dsimp only at hh
    try simp only[w,seval,-Int.reduceToNat,Zj2]
    refine sp an hh (fun _ hh =>?_) (fun _ hh =>?_)
    ·cases hh
     try simp only[w,seval,-Int.reduceToNat,Zj2]
    ·try simp only[w,seval,-Int.reduceToNat,Zj2]
     refine sp aR hh (fun _ hh =>?_) (fun _ hh =>?_)
     ·cases hh
      try simp only[w,seval,-Int.reduceToNat,Zj2]
     ·obtain⟨x13,hx13,hh⟩:=ae hh
      have ax13:=bF (eI .i64) hx13
      simp only[bU]at ax13
      cases hh
      try simp only[w,seval,-Int.reduceToNat,Zj2,ax13]
   ·clear hh
    have hh:=ho10
    try simp only[w,seval,-Int.reduceToNat,Zax]
    refine sp aR hh (fun _ hh =>?_) (fun _ hh =>?_)
    ·cases hh
     try simp only[w,seval,-Int.reduceToNat,Zax]
     rw[al]
     refine⟨_,rfl,?_⟩
     refine⟨v1ax,?_,?_,?_,?_⟩
     all_goals first|rfl|(simp only[w,seval,-Int.reduceToNat,Zax]<;>rfl)
    ·try simp only[w,seval,-Int.reduceToNat,Zax]
     refine sp aR hh (fun _ hh =>?_) (fun _ hh =>?_)
     ·cases hh
      try simp only[w,seval,-Int.reduceToNat,Zax]
      rw[al]
      refine⟨_,rfl,?_⟩
      refine⟨v1ax,?_,?_,?_,?_⟩
      all_goals first|rfl|(simp only[w,seval,-Int.reduceToNat,Zax]<;>rfl)
     ·cases hh
      try simp only[w,seval,-Int.reduceToNat,Zax]
      rw[al]
      refine⟨_,rfl,?_⟩
      refine⟨v1ax,?_,?_,?_,?_⟩
      all_goals first|rfl|(simp only[w,seval,-Int.reduceToNat,Zax]<;>rfl)
  ·dsimp only at hx hh
   obtain⟨rfl,hE⟩:=hx
   cases hh
   try simp only[bq,bc,bC,cP,cO]
   exact hE
theorem ng:bN Tryz.prog 111 jY:=bN.of (mode := .clean) tok bT.none mixed Tryz.func111 (by kernel_rfl) ⟨by kernel_rfl,by kernel_rfl⟩ (fun _=>Nat.le_of_ble_eq_true (by kernel_rfl)) (fun x r h=>Ka x r h)
noncomputable def xI:=eB (dK (cR iB)) (fun x:az=>ur x) (fun r:az =>.clean (.agg [.int .i64 r.aj,.sl false false r.aa.length (ab (eI .i64) r.aa)]))
theorem FQ (p0_0:Int) (p0_1:(List Int)):xI none [.agg [.int .i64 p0_0,.sl false false p0_1.length (ab (eI .i64) p0_1)]]=(ur (az.mk p0_0 p0_1)).map fun r:az=>(.clean (.agg [.int .i64 r.aj,.sl false false r.aa.length (ab (eI .i64) r.aa)]),none):=aJ _ _ _ ((az.mk p0_0 p0_1))
noncomputable def ud:Env:=(Am.ext (Am.ext aU 111 false jY) 133 false lk)
theorem Mf:bT Tryz.prog ud:=((bT.none.add ng false).add oS false)
theorem yI:type_of% (ai @w<|ai @gK<|ai @iT<|@ud.eq_1):=⟨@w,@gK,@iT,@ud.eq_1⟩
theorem Qa (p0:az) (r:az) (hh:ur p0=some r):aS .clean tab ud FU Tryz.f131 none [.agg [.int .i64 p0.aj,.sl false false p0.aa.length (ab (eI .i64) p0.aa)]]=some (.clean (.agg [.int .i64 r.aj,.sl false false r.aa.length (ab (eI .i64) r.aa)]),none):=by
 refine aw rfl Tryz.ntmps131 Tryz.results131 ?_
 unfold ur at hh
 obtain⟨r1,hr1,hh⟩:=ae hh
 try simp only[yI,seval,-Int.reduceToNat,hr1]
 refine sp an hh (fun _ hh =>?_) (fun _ hh =>?_)
 ·cases hh
  try simp only[yI,seval,-Int.reduceToNat,hr1]
 ·obtain⟨r3,hr3,hh⟩:=ae hh
  cases hh
  try simp only[yI,seval,-Int.reduceToNat,hr1,hr3]
theorem MO:bN Tryz.prog 131 xI:=bN.of (mode := .clean) tok Mf mixed Tryz.func131 (by kernel_rfl) ⟨by kernel_rfl,by kernel_rfl⟩ (fun _=>Nat.le_of_ble_eq_true (by kernel_rfl)) (fun x r h=>Qa x r h)
noncomputable def jZ:=eB (dR (iG (eI .i64)) (dK (aI .i64))) (fun x:(List Int)×Int=>fH x.1 x.2) (fun r:Int =>.clean (.int .i64 r))
theorem gL (p0:(List Int)) (p1:Int):jZ none [.sl false false p0.length (ab (eI .i64) p0),.int .i64 p1]=(fH p0 p1).map fun r:Int=>(.clean (.int .i64 r),none):=aJ _ _ _ (p0,p1)
theorem Kb (p0:(List Int)) (p1:Int) (r:Int) (hh:fH p0 p1=some r):aS .clean tab aU FU Tryz.f175 none [.sl false false p0.length (ab (eI .i64) p0),.int .i64 p1]=some (.clean (.int .i64 r),none):=by
 refine aw rfl Tryz.ntmps175 Tryz.results175 ?_
 unfold fH at hh
 try simp only[w,seval,-Int.reduceToNat]
 refine sp an hh (fun _ hh =>?_) (fun _ hh =>?_)
 ·obtain⟨x2,hx2,hh⟩:=ae hh
  have ax2:=bF (eI .i64) hx2
  simp only[bU]at ax2
  cases hh
  try simp only[w,seval,-Int.reduceToNat,ax2]
 ·cases hh
  try simp only[w,seval,-Int.reduceToNat]
theorem nh:bN Tryz.prog 175 jZ:=bN.of (mode := .clean) tok bT.none mixed Tryz.func175 (by kernel_rfl) ⟨by kernel_rfl,by kernel_rfl⟩ (fun _=>Nat.le_of_ble_eq_true (by kernel_rfl)) (fun x r h=>Kb x.1 x.2 r h)
noncomputable def sk:=eB (dR (iG (eI .i64)) (dK (iG (eI .i64)))) (fun x:(List Int)×(List Int)=>jg x.1 x.2) (fun r:(List Int) =>.clean (.sl false false r.length (ab (eI .i64) r)))
theorem tC (p0:(List Int)) (p1:(List Int)):sk none [.sl false false p0.length (ab (eI .i64) p0),.sl false false p1.length (ab (eI .i64) p1)]=(jg p0 p1).map fun r:(List Int)=>(.clean (.sl false false r.length (ab (eI .i64) r)),none):=aJ _ _ _ (p0,p1)
noncomputable def oI:Env:=(Am.ext (Am.ext aU 169 false jK) 175 false jZ)
theorem GU:bT Tryz.prog oI:=((bT.none.add me false).add nh false)
theorem ca:type_of% (ai @w<|ai @fB<|ai @gL<|@oI.eq_1):=⟨@w,@fB,@gL,@oI.eq_1⟩
theorem Kd (p0:(List Int)) (p1:(List Int)) (r:(List Int)) (hh:jg p0 p1=some r):aS .clean tab oI FU Tryz.f154 none [.sl false false p0.length (ab (eI .i64) p0),.sl false false p1.length (ab (eI .i64) p1)]=some (.clean (.sl false false r.length (ab (eI .i64) r)),none):=by
 refine aw rfl Tryz.ntmps154 Tryz.results154 ?_
 unfold jg at hh
 obtain⟨x1,hx1,hh⟩:=ae hh
 obtain⟨q2a,q2b,q2c,q2d,q2e⟩:=mk_one (eI .i64) hx1
 simp only[bU]at q2d
 try simp only[ca,seval,-Int.reduceToNat,q2a,q2b,q2c,q2d,q2e]
 obtain⟨o27,ho27,hh⟩:=ae hh
 refine aB (fun s t H e=>match s with|(s6a,l5a)=>∃v5a:Nat,t 0=.sl false false p0.length (ab (eI .i64) p0)∧t 1=.sl false false p1.length (ab (eI .i64) p1)∧t 5=.buf 5 v5a 1 0 (l5a).length∧t 6=.int .i64 s6a∧H 5=some ⟨v5a,3,ab (eI .i64) l5a,false,true,false⟩) (fun o x t H e=>match o with|l5ax=>x=.exit 0∧∃v5ax:Nat,t 5=.buf 5 v5ax 1 0 (l5ax).length∧H 5=some ⟨v5ax,3,ab (eI .i64) l5ax,false,true,false⟩) ho27 ?_ ?_ ?_
 ·refine⟨1,?_,?_,?_,?_,?_⟩
  all_goals first|rfl|(simp only[ca,seval,-Int.reduceToNat,q2a,q2b,q2c,q2d,q2e]<;>rfl)
 ·rintro⟨s6a,l5a⟩ t H e ⟨v5a,Za⟩ c hh
  simp only[nx]at hh
  try simp only[ca,seval,-Int.reduceToNat,q2a,q2b,q2c,q2d,q2e,Za]
  refine sp an hh (fun _ hh =>?_) (fun _ hh =>?_)
  ·try simp only[ca,seval,-Int.reduceToNat,q2a,q2b,q2c,q2d,q2e,Za]
   obtain⟨o40,ho40,hh⟩:=ae hh
   refine aB (fun s t H e=>match s with|(s7e,s8e,l5e)=>∃v5e:Nat,t 0=.sl false false p0.length (ab (eI .i64) p0)∧t 1=.sl false false p1.length (ab (eI .i64) p1)∧t 5=.buf 5 v5e 1 0 (l5e).length∧t 6=.int .i64 s6a∧t 7=.int .i64 s7e∧t 8=.int .i64 s8e∧H 5=some ⟨v5e,3,ab (eI .i64) l5e,false,true,false⟩) (fun o x t H e=>match o with|l5ex=>x=.exit 2∧∃v5ex:Nat,t 0=.sl false false p0.length (ab (eI .i64) p0)∧t 1=.sl false false p1.length (ab (eI .i64) p1)∧t 5=.buf 5 v5ex 1 0 (l5ex).length∧t 6=.int .i64 s6a∧H 5=some ⟨v5ex,3,ab (eI .i64) l5ex,false,true,false⟩) ho40 ?_ ?_ ?_
   ·refine⟨v5a,?_,?_,?_,?_,?_,?_,?_⟩
    all_goals first|rfl|(simp only[ca,seval,-Int.reduceToNat,q2a,q2b,q2c,q2d,q2e,Za]<;>rfl)
   ·rintro⟨s7e,s8e,l5e⟩ t H e ⟨v5e,Ze⟩ c hh
    simp only[ny]at hh
    try simp only[ca,seval,-Int.reduceToNat,q2a,q2b,q2c,q2d,q2e,Ze]
    obtain⟨o41,ho41,hh⟩:=ae hh
    refine bH 0 (fun s t H e=>match s with|s29j7=>∃v5j7:Nat,t 0=.sl false false p0.length (ab (eI .i64) p0)∧t 1=.sl false false p1.length (ab (eI .i64) p1)∧t 5=.buf 5 v5j7 1 0 (l5e).length∧t 6=.int .i64 s6a∧t 7=.int .i64 s7e∧t 8=.int .i64 s8e∧t 29=.bool s29j7∧H 5=some ⟨v5j7,3,ab (eI .i64) l5e,false,true,false⟩) (fun s=>s=o41) ?_ ?_
    ·rintro s29j7 t H e ⟨v5j7,Zj7⟩ rfl
     try dsimp only at hh
     try simp only[ca,seval,-Int.reduceToNat,q2a,q2b,q2c,q2d,q2e,Zj7]
     refine sp an hh (fun _ hh =>?_) (fun _ hh =>?_)
     ·obtain⟨x43,hx43,hh⟩:=ae hh
      have ax43:=bF (eI .i64) hx43
      simp only[bU]at ax43
      obtain⟨x44,hx44,hh⟩:=ae hh
      have ax44:=bF (eI .i64) hx44
      simp only[bU]at ax44
      obtain⟨r45,hr45,hh⟩:=ae hh
      try simp only[ca,seval,-Int.reduceToNat,q2a,q2b,q2c,q2d,q2e,Zj7,ax43,ax44,hr45]
      refine bX (by kernel_rfl) ?_
      obtain⟨x46,hx46,hh⟩:=ae hh
      have q47:=oR hx46
      have ax43:=bF (eI .i64) hx43
      simp only[bU]at ax43
      have p48:=jH (eI .i64) (x':=x46) (fo:=0) (cs:=[.int .i64 x46]) hx43 rfl (Nat.le_of_ble_eq_true rfl)
      simp only[bU,Nat.add_zero]at p48
      have up48:=p48
      simp only[putCells,List.length_cons,List.length_nil,Nat.zero_add,Nat.reduceAdd]at up48
      obtain⟨x49,hx49,hh⟩:=ae hh
      have q50:=qz hx49
      cases hh
      try simp only[ca,seval,-Int.reduceToNat,q2a,q2b,q2c,q2d,q2e,Zj7,ax43,ax44,hr45,q47,ax43,p48,up48,q50]
      refine iS ?_
      refine⟨v5j7,?_,?_,?_,?_,?_,?_,?_⟩
      all_goals first|rfl|(simp only[ca,seval,-Int.reduceToNat,q2a,q2b,q2c,q2d,q2e,Zj7,ax43,ax44,hr45,q47,ax43,p48,up48,q50]<;>rfl)
     ·cases hh
      try simp only[ca,seval,-Int.reduceToNat,q2a,q2b,q2c,q2d,q2e,Zj7]
      refine ki ?_
      refine⟨rfl,⟨v5j7,?_,?_,?_,?_,?_⟩⟩
      all_goals first|rfl|(simp only[ca,seval,-Int.reduceToNat,q2a,q2b,q2c,q2d,q2e,Zj7]<;>rfl)
    ·clear hh
     have hh:=ho41
     try simp only[ca,seval,-Int.reduceToNat,q2a,q2b,q2c,q2d,q2e,Ze]
     refine sp aR hh (fun _ hh =>?_) (fun _ hh =>?_)
     ·cases hh
      try simp only[ca,seval,-Int.reduceToNat,q2a,q2b,q2c,q2d,q2e,Ze]
      rw[al]
      refine⟨_,rfl,?_⟩
      refine⟨v5e,?_,?_,?_,?_,?_,?_,?_,?_⟩
      all_goals first|rfl|(simp only[ca,seval,-Int.reduceToNat,q2a,q2b,q2c,q2d,q2e,Ze]<;>rfl)
     ·cases hh
      try simp only[ca,seval,-Int.reduceToNat,q2a,q2b,q2c,q2d,q2e,Ze]
      rw[al]
      refine⟨_,rfl,?_⟩
      refine⟨v5e,?_,?_,?_,?_,?_,?_,?_,?_⟩
      all_goals first|rfl|(simp only[ca,seval,-Int.reduceToNat,q2a,q2b,q2c,q2d,q2e,Ze]<;>rfl)
   ·rintro x t H e hx
    obtain⟨l5ex,rfl⟩:∃z,z=o40:=⟨_,rfl⟩
    dsimp only at hx hh
    obtain⟨rfl,⟨v5ex,Zex⟩⟩:=hx
    cases hh
    try simp only[ca,seval,-Int.reduceToNat,q2a,q2b,q2c,q2d,q2e,Zex]
    refine iS ?_
    refine⟨v5ex,?_,?_,?_,?_,?_⟩
    all_goals first|rfl|(simp only[ca,seval,-Int.reduceToNat,q2a,q2b,q2c,q2d,q2e,Zex]<;>rfl)
  ·cases hh
   try simp only[ca,seval,-Int.reduceToNat,q2a,q2b,q2c,q2d,q2e,Za]
   refine ki ?_
   refine⟨rfl,⟨v5a,?_,?_⟩⟩
   all_goals first|rfl|(simp only[ca,seval,-Int.reduceToNat,q2a,q2b,q2c,q2d,q2e,Za]<;>rfl)
 ·rintro x t H e hx
  obtain⟨l5ax,rfl⟩:∃z,z=o27:=⟨_,rfl⟩
  dsimp only at hx hh
  obtain⟨rfl,⟨v5ax,Zax⟩⟩:=hx
  obtain⟨r52,hr52,hh⟩:=ae hh
  cases hh
  try simp only[ca,seval,-Int.reduceToNat,q2a,q2b,q2c,q2d,q2e,Zax,hr52]
theorem Hs:bN Tryz.prog 154 sk:=bN.of (mode := .clean) tok GU mixed Tryz.func154 (by kernel_rfl) ⟨by kernel_rfl,by kernel_rfl⟩ (fun _=>Nat.le_of_ble_eq_true (by kernel_rfl)) (fun x r h=>Kd x.1 x.2 r h)
noncomputable def vD:=eB (dR (iG (eI .i64)) (dK (iG (eI .i64)))) (fun x:(List Int)×(List Int)=>mi x.1 x.2) (fun r:Bool =>.clean (.bool r))
theorem CD (p0:(List Int)) (p1:(List Int)):vD none [.sl false false p0.length (ab (eI .i64) p0),.sl false false p1.length (ab (eI .i64) p1)]=(mi p0 p1).map fun r:Bool=>(.clean (.bool r),none):=aJ _ _ _ (p0,p1)
noncomputable def qG:Env:=(Am.ext aU 175 false jZ)
theorem Jr:bT Tryz.prog qG:=(bT.none.add nh false)
theorem gh:type_of% (ai @w<|ai @gL<|@qG.eq_1):=⟨@w,@gL,@qG.eq_1⟩
theorem My (p0:(List Int)) (p1:(List Int)) (r:Bool) (hh:mi p0 p1=some r):aS .clean tab qG FU Tryz.f153 none [.sl false false p0.length (ab (eI .i64) p0),.sl false false p1.length (ab (eI .i64) p1)]=some (.clean (.bool r),none):=by
 refine aw rfl Tryz.ntmps153 Tryz.results153 ?_
 unfold mi at hh
 try simp only[gh,seval,-Int.reduceToNat]
 obtain⟨o5,ho5,hh⟩:=ae hh
 refine aB (fun s t H e=>match s with|s5a=>t 0=.sl false false p0.length (ab (eI .i64) p0)∧t 1=.sl false false p1.length (ab (eI .i64) p1)∧t 5=.int .i64 s5a) (fun o x t H e=>match o with|(.inl _)=>x=.exit 0|(.inr r)=>x=.ret∧gj .clean tab none [.tmp 4] ⟨t,H,e⟩=some (.clean (.bool r),none)) ho5 ?_ ?_ ?_
 ·refine⟨?_,?_,?_⟩
  all_goals first|rfl|(simp only[gh,seval,-Int.reduceToNat]<;>rfl)
 ·rintro s5a t H e Za c hh
  simp only[oZ]at hh
  try simp only[gh,seval,-Int.reduceToNat,Za]
  refine sp an hh (fun _ hh =>?_) (fun _ hh =>?_)
  ·obtain⟨r7,hr7,hh⟩:=ae hh
   obtain⟨r8,hr8,hh⟩:=ae hh
   try simp only[gh,seval,-Int.reduceToNat,Za,hr7,hr8]
   refine sp an hh (fun _ hh =>?_) (fun _ hh =>?_)
   ·cases hh
    try simp only[gh,seval,-Int.reduceToNat,Za,hr7,hr8]
    refine ti ⟨rfl,?_⟩
    try simp only[gh,seval,-Int.reduceToNat,Za,hr7,hr8]
   ·cases hh
    try simp only[gh,seval,-Int.reduceToNat,Za,hr7,hr8]
    refine iS ?_
    refine⟨?_,?_,?_⟩
    all_goals first|rfl|(simp only[gh,seval,-Int.reduceToNat,Za,hr7,hr8]<;>rfl)
  ·cases hh
   try simp only[gh,seval,-Int.reduceToNat,Za]
   refine ki ?_
   exact rfl
 ·rintro x t H e hx
  rcases o5 with _|ra
  ·dsimp only at hx hh
   subst hx
   cases hh
   try simp only[gh,seval,-Int.reduceToNat]
  ·dsimp only at hx hh
   obtain⟨rfl,hE⟩:=hx
   cases hh
   try simp only[bq,bc,bC,cP,cO]
   exact hE
theorem KI:bN Tryz.prog 153 vD:=bN.of (mode := .clean) tok Jr mixed Tryz.func153 (by kernel_rfl) ⟨by kernel_rfl,by kernel_rfl⟩ (fun _=>Nat.le_of_ble_eq_true (by kernel_rfl)) (fun x r h=>My x.1 x.2 r h)
noncomputable def ox:=eB (dR (iG (eI .i64)) (dK (iG (eI .i64)))) (fun x:(List Int)×(List Int)=>j8 x.1 x.2) (fun r:(List Int) =>.clean (.sl false false r.length (ab (eI .i64) r)))
theorem oX (p0:(List Int)) (p1:(List Int)):ox none [.sl false false p0.length (ab (eI .i64) p0),.sl false false p1.length (ab (eI .i64) p1)]=(j8 p0 p1).map fun r:(List Int)=>(.clean (.sl false false r.length (ab (eI .i64) r)),none):=aJ _ _ _ (p0,p1)
noncomputable def oH:Env:=(Am.ext (Am.ext aU 169 false jK) 175 false jZ)
theorem GS:bT Tryz.prog oH:=((bT.none.add me false).add nh false)
theorem ey:type_of% (ai @w<|ai @fB<|ai @gL<|@oH.eq_1):=⟨@w,@fB,@gL,@oH.eq_1⟩
theorem Kc (p0:(List Int)) (p1:(List Int)) (r:(List Int)) (hh:j8 p0 p1=some r):aS .clean tab oH FU Tryz.f168 none [.sl false false p0.length (ab (eI .i64) p0),.sl false false p1.length (ab (eI .i64) p1)]=some (.clean (.sl false false r.length (ab (eI .i64) r)),none):=by
 refine aw rfl Tryz.ntmps168 Tryz.results168 ?_
 unfold j8 at hh
 try simp only[ey,seval,-Int.reduceToNat]
 obtain⟨o9,ho9,hh⟩:=ae hh
 refine aB (fun s t H e=>match s with|(s6a,s7a,l5a)=>∃v5a:Nat,t 0=.sl false false p0.length (ab (eI .i64) p0)∧t 1=.sl false false p1.length (ab (eI .i64) p1)∧t 5=.buf 5 v5a 1 0 (l5a).length∧t 6=.int .i64 s6a∧t 7=.int .i64 s7a∧H 5=some ⟨v5a,3,ab (eI .i64) l5a,false,true,false⟩) (fun o x t H e=>match o with|l5ax=>x=.exit 0∧∃v5ax:Nat,t 5=.buf 5 v5ax 1 0 (l5ax).length∧H 5=some ⟨v5ax,3,ab (eI .i64) l5ax,false,true,false⟩) ho9 ?_ ?_ ?_
 ·refine⟨1,?_,?_,?_,?_,?_,?_⟩
  all_goals first|rfl|(simp only[ey,seval,-Int.reduceToNat]<;>rfl)
 ·rintro⟨s6a,s7a,l5a⟩ t H e ⟨v5a,Za⟩ c hh
  simp only[nw]at hh
  try simp only[ey,seval,-Int.reduceToNat,Za]
  refine sp an hh (fun _ hh =>?_) (fun _ hh =>?_)
  ·obtain⟨x11,hx11,hh⟩:=ae hh
   have ax11:=bF (eI .i64) hx11
   simp only[bU]at ax11
   obtain⟨r12,hr12,hh⟩:=ae hh
   try simp only[ey,seval,-Int.reduceToNat,Za,ax11,hr12]
   refine bX (by kernel_rfl) ?_
   try simp only[ey,seval,-Int.reduceToNat,Za,ax11,hr12]
   refine sp an hh (fun _ hh =>?_) (fun _ hh =>?_)
   ·obtain⟨x14,hx14,hh⟩:=ae hh
    obtain⟨q15a,q15b,q15c,q15d⟩:=fD (eI .i64) hx14
    simp only[bU]at q15b
    cases hh
    try simp only[ey,seval,-Int.reduceToNat,Za,ax11,hr12,q15a,q15b,q15c,q15d]
    refine iS ?_
    refine⟨e+1+1+1+1+1+1,?_,?_,?_,?_,?_,?_⟩
    all_goals first|rfl|(simp only[ey,seval,-Int.reduceToNat,Za,ax11,hr12,q15a,q15b,q15c,q15d]<;>rfl)
   ·obtain⟨x16,hx16,hh⟩:=ae hh
    obtain⟨q17a,q17b,q17c,q17d⟩:=fD (eI .i64) hx16
    simp only[bU]at q17b
    cases hh
    try simp only[ey,seval,-Int.reduceToNat,Za,ax11,hr12,q17a,q17b,q17c,q17d]
    refine iS ?_
    refine⟨e+1+1+1+1,?_,?_,?_,?_,?_,?_⟩
    all_goals first|rfl|(simp only[ey,seval,-Int.reduceToNat,Za,ax11,hr12,q17a,q17b,q17c,q17d]<;>rfl)
  ·cases hh
   try simp only[ey,seval,-Int.reduceToNat,Za]
   refine ki ?_
   refine⟨rfl,⟨v5a,?_,?_⟩⟩
   all_goals first|rfl|(simp only[ey,seval,-Int.reduceToNat,Za]<;>rfl)
 ·rintro x t H e hx
  obtain⟨l5ax,rfl⟩:∃z,z=o9:=⟨_,rfl⟩
  dsimp only at hx hh
  obtain⟨rfl,⟨v5ax,Zax⟩⟩:=hx
  obtain⟨r18,hr18,hh⟩:=ae hh
  cases hh
  try simp only[ey,seval,-Int.reduceToNat,Zax,hr18]
theorem w8:bN Tryz.prog 168 ox:=bN.of (mode := .clean) tok GS mixed Tryz.func168 (by kernel_rfl) ⟨by kernel_rfl,by kernel_rfl⟩ (fun _=>Nat.le_of_ble_eq_true (by kernel_rfl)) (fun x r h=>Kc x.1 x.2 r h)
noncomputable def pX:=eB (dR (iG (eI .i64)) (dK (iG (eI .i64)))) (fun x:(List Int)×(List Int)=>mj x.1 x.2) (fun r:(List Int)×(List Int) =>.clean (.tup [.sl false false r.1.length (ab (eI .i64) r.1),.sl false false r.2.length (ab (eI .i64) r.2)]))
theorem qT (p0:(List Int)) (p1:(List Int)):pX none [.sl false false p0.length (ab (eI .i64) p0),.sl false false p1.length (ab (eI .i64) p1)]=(mj p0 p1).map fun r:(List Int)×(List Int)=>(.clean (.tup [.sl false false r.1.length (ab (eI .i64) r.1),.sl false false r.2.length (ab (eI .i64) r.2)]),none):=aJ _ _ _ (p0,p1)
noncomputable def qI:Env:=(Am.keep 7 (Am.ext (Am.ext (Am.ext (Am.ext aU 153 false vD) 154 false sk) 168 false ox) 169 false jK))
theorem Jt:bT Tryz.prog qI:=(bT.keep ((((bT.none.add KI false).add Hs false).add w8 false).add me false) 7)
theorem db:type_of% (ai @w<|ai @CD<|ai @tC<|ai @oX<|ai @fB<|@qI.eq_1):=⟨@w,@CD,@tC,@oX,@fB,@qI.eq_1⟩
theorem MA (p0:(List Int)) (p1:(List Int)) (r:(List Int)×(List Int)) (hh:mj p0 p1=some r):aS .clean tab qI FU Tryz.f151 none [.sl false false p0.length (ab (eI .i64) p0),.sl false false p1.length (ab (eI .i64) p1)]=some (.clean (.tup [.sl false false r.1.length (ab (eI .i64) r.1),.sl false false r.2.length (ab (eI .i64) r.2)]),none):=by
 refine aw rfl Tryz.ntmps151 Tryz.results151 ?_
 unfold mj at hh
 obtain⟨x1,hx1,hh⟩:=ae hh
 obtain⟨q2a,q2b,q2c,q2d,q2e⟩:=mk_one (eI .i64) hx1
 simp only[bU]at q2d
 try simp only[db,seval,-Int.reduceToNat,q2a,q2b,q2c,q2d,q2e]
 obtain⟨o29,ho29,hh⟩:=ae hh
 refine aB (fun s t H e=>match s with|(s7a,s8a,l6a)=>∃v6a:Nat,t 0=.sl false false p0.length (ab (eI .i64) p0)∧t 1=.sl false false p1.length (ab (eI .i64) p1)∧t 6=.buf 6 v6a 1 0 (l6a).length∧t 7=.sl false false s7a.length (ab (eI .i64) s7a)∧t 8=.int .i64 s8a∧H 6=some ⟨v6a,3,ab (eI .i64) l6a,false,true,false⟩) (fun o x t H e=>match o with|(s7ax,l6ax)=>x=.exit 0∧∃v6ax:Nat,t 6=.buf 6 v6ax 1 0 (l6ax).length∧t 7=.sl false false s7ax.length (ab (eI .i64) s7ax)∧H 6=some ⟨v6ax,3,ab (eI .i64) l6ax,false,true,false⟩) ho29 ?_ ?_ ?_
 ·refine⟨1,?_,?_,?_,?_,?_,?_⟩
  all_goals first|rfl|(simp only[db,seval,-Int.reduceToNat,q2a,q2b,q2c,q2d,q2e]<;>rfl)
 ·rintro⟨s7a,s8a,l6a⟩ t H e ⟨v6a,Za⟩ c hh
  simp only[o0]at hh
  try simp only[db,seval,-Int.reduceToNat,q2a,q2b,q2c,q2d,q2e,Za]
  refine sp an hh (fun _ hh =>?_) (fun _ hh =>?_)
  ·obtain⟨x31,hx31,hh⟩:=ae hh
   have ax31:=bF (eI .i64) hx31
   simp only[bU]at ax31
   obtain⟨x32,hx32,hh⟩:=ae hh
   obtain⟨q33a,q33b,q33c,q33d⟩:=Uh (eI .i64) hx32
   simp only[aM,bU,List.length_cons,Nat.zero_add,Nat.reduceAdd]at q33a q33b
   obtain⟨r34,hr34,hh⟩:=ae hh
   try simp only[db,seval,-Int.reduceToNat,q2a,q2b,q2c,q2d,q2e,Za,ax31,q33a,q33b,q33c,q33d,hr34]
   obtain⟨o42,ho42,hh⟩:=ae hh
   refine aB (fun s t H e=>match s with|(s9c,s10c)=>∃v6c:Nat,t 0=.sl false false p0.length (ab (eI .i64) p0)∧t 1=.sl false false p1.length (ab (eI .i64) p1)∧t 6=.buf 6 v6c 1 0 (l6a).length∧t 7=.sl false false r34.length (ab (eI .i64) r34)∧t 8=.int .i64 s8a∧t 9=.int .i64 s9c∧t 10=.int .i64 s10c∧H 6=some ⟨v6c,3,ab (eI .i64) l6a,false,true,false⟩) (fun o x t H e=>match o with|s9cx=>x=.exit 2∧∃v6cx:Nat,t 0=.sl false false p0.length (ab (eI .i64) p0)∧t 1=.sl false false p1.length (ab (eI .i64) p1)∧t 6=.buf 6 v6cx 1 0 (l6a).length∧t 7=.sl false false r34.length (ab (eI .i64) r34)∧t 8=.int .i64 s8a∧t 9=.int .i64 s9cx∧H 6=some ⟨v6cx,3,ab (eI .i64) l6a,false,true,false⟩) ho42 ?_ ?_ ?_
   ·refine⟨v6a,?_,?_,?_,?_,?_,?_,?_,?_⟩
    all_goals first|rfl|(simp only[db,seval,-Int.reduceToNat,q2a,q2b,q2c,q2d,q2e,Za,ax31,q33a,q33b,q33c,q33d,hr34]<;>rfl)
   ·rintro⟨s9c,s10c⟩ t H e ⟨v6c,Zc⟩ c hh
    simp only[ml]at hh
    try simp only[db,seval,-Int.reduceToNat,q2a,q2b,q2c,q2d,q2e,ax31,q33a,q33b,q33c,q33d,hr34,Zc]
    refine sp an hh (fun _ hh =>?_) (fun _ hh =>?_)
    ·obtain⟨x44,hx44,hh⟩:=ae hh
     have q45:=qz hx44
     have i46:=tC p1 ([x44])
     simp only[aM,bU,List.length_cons,List.length_nil,Nat.zero_add,Nat.reduceAdd,List.length_set]at i46
     obtain⟨r47,hr47,hh⟩:=ae hh
     obtain⟨r48,hr48,hh⟩:=ae hh
     try simp only[db,seval,-Int.reduceToNat,q2a,q2b,q2c,q2d,q2e,ax31,q33a,q33b,q33c,q33d,hr34,Zc,q45,i46,hr47,hr48]
     refine sp an hh (fun _ hh =>?_) (fun _ hh =>?_)
     ·cases hh
      try simp only[db,seval,-Int.reduceToNat,q2a,q2b,q2c,q2d,q2e,ax31,q33a,q33b,q33c,q33d,hr34,Zc,q45,i46,hr47,hr48]
      refine iS ?_
      refine⟨v6c,?_,?_,?_,?_,?_,?_,?_,?_⟩
      all_goals first|rfl|(simp only[db,seval,-Int.reduceToNat,q2a,q2b,q2c,q2d,q2e,ax31,q33a,q33b,q33c,q33d,hr34,Zc,q45,i46,hr47,hr48]<;>rfl)
     ·cases hh
      try simp only[db,seval,-Int.reduceToNat,q2a,q2b,q2c,q2d,q2e,ax31,q33a,q33b,q33c,q33d,hr34,Zc,q45,i46,hr47,hr48]
      refine iS ?_
      refine⟨v6c,?_,?_,?_,?_,?_,?_,?_,?_⟩
      all_goals first|rfl|(simp only[db,seval,-Int.reduceToNat,q2a,q2b,q2c,q2d,q2e,ax31,q33a,q33b,q33c,q33d,hr34,Zc,q45,i46,hr47,hr48]<;>rfl)
    ·cases hh
     try simp only[db,seval,-Int.reduceToNat,q2a,q2b,q2c,q2d,q2e,ax31,q33a,q33b,q33c,q33d,hr34,Zc]
     refine ki ?_
     refine⟨rfl,⟨v6c,?_,?_,?_,?_,?_,?_,?_⟩⟩
     all_goals first|rfl|(simp only[db,seval,-Int.reduceToNat,q2a,q2b,q2c,q2d,q2e,ax31,q33a,q33b,q33c,q33d,hr34,Zc]<;>rfl)
   ·rintro x t H e hx
    obtain⟨s9cx,rfl⟩:∃z,z=o42:=⟨_,rfl⟩
    dsimp only at hx hh
    obtain⟨rfl,⟨v6cx,Zcx⟩⟩:=hx
    obtain⟨x50,hx50,hh⟩:=ae hh
    have ax50:=bF (eI .i64) hx50
    simp only[bU]at ax50
    have p51:=jH (eI .i64) (x':=s9cx) (fo:=0) (cs:=[.int .i64 s9cx]) hx50 rfl (Nat.le_of_ble_eq_true rfl)
    simp only[bU,Nat.add_zero]at p51
    have up51:=p51
    simp only[putCells,List.length_cons,List.length_nil,Nat.zero_add,Nat.reduceAdd]at up51
    have i52:=fB ([s9cx])
    simp only[aM,bU,List.length_cons,List.length_nil,Nat.zero_add,Nat.reduceAdd,List.length_set]at i52
    obtain⟨r53,hr53,hh⟩:=ae hh
    obtain⟨r54,hr54,hh⟩:=ae hh
    obtain⟨r55,hr55,hh⟩:=ae hh
    cases hh
    try simp only[db,seval,-Int.reduceToNat,q2a,q2b,q2c,q2d,q2e,ax31,q33a,q33b,q33c,q33d,hr34,Zcx,ax50,p51,up51,i52,hr53,hr54,hr55]
    refine iS ?_
    refine⟨v6cx,?_,?_,?_,?_,?_,?_⟩
    all_goals first|rfl|(simp only[db,seval,-Int.reduceToNat,q2a,q2b,q2c,q2d,q2e,ax31,q33a,q33b,q33c,q33d,hr34,Zcx,ax50,p51,up51,i52,hr53,hr54,hr55]<;>rfl)
  ·cases hh
   try simp only[db,seval,-Int.reduceToNat,q2a,q2b,q2c,q2d,q2e,Za]
   refine ki ?_
   refine⟨rfl,⟨v6a,?_,?_,?_⟩⟩
   all_goals first|rfl|(simp only[db,seval,-Int.reduceToNat,q2a,q2b,q2c,q2d,q2e,Za]<;>rfl)
 ·rintro x t H e hx
  rcases o29 with⟨s7ax,l6ax⟩
  dsimp only at hx hh
  obtain⟨rfl,⟨v6ax,Zax⟩⟩:=hx
  obtain⟨r56,hr56,hh⟩:=ae hh
  cases hh
  try simp only[db,seval,-Int.reduceToNat,q2a,q2b,q2c,q2d,q2e,Zax,hr56]
theorem zg:bN Tryz.prog 151 pX:=bN.of (mode := .clean) tok Jt mixed Tryz.func151 (by kernel_rfl) ⟨by kernel_rfl,by kernel_rfl⟩ (fun _=>Nat.le_of_ble_eq_true (by kernel_rfl)) (fun x r h=>MA x.1 x.2 r h)
noncomputable def xH:=eB (dR (cR iB) (dK (cR iB))) (fun x:az×az=>oY x.1 x.2) (fun r:az×Int =>.clean (.tup [.agg [.int .i64 r.1.aj,.sl false false r.1.aa.length (ab (eI .i64) r.1.aa)],.int .i64 r.2]))
theorem FP (p0_0:Int) (p0_1:(List Int)) (p1_0:Int) (p1_1:(List Int)):xH none [.agg [.int .i64 p0_0,.sl false false p0_1.length (ab (eI .i64) p0_1)],.agg [.int .i64 p1_0,.sl false false p1_1.length (ab (eI .i64) p1_1)]]=(oY (az.mk p0_0 p0_1) (az.mk p1_0 p1_1)).map fun r:az×Int=>(.clean (.tup [.agg [.int .i64 r.1.aj,.sl false false r.1.aa.length (ab (eI .i64) r.1.aa)],.int .i64 r.2]),none):=aJ _ _ _ ((az.mk p0_0 p0_1),(az.mk p1_0 p1_1))
noncomputable def uc:Env:=(Am.ext (Am.ext (Am.ext aU 111 false jY) 133 false lk) 151 false pX)
theorem Me:bT Tryz.prog uc:=(((bT.none.add ng false).add oS false).add zg false)
theorem eu:type_of% (ai @w<|ai @gK<|ai @iT<|ai @qT<|@uc.eq_1):=⟨@w,@gK,@iT,@qT,@uc.eq_1⟩
theorem P9 (p0:az) (p1:az) (r:az×Int) (hh:oY p0 p1=some r):aS .clean tab uc FU Tryz.f112 none [.agg [.int .i64 p0.aj,.sl false false p0.aa.length (ab (eI .i64) p0.aa)],.agg [.int .i64 p1.aj,.sl false false p1.aa.length (ab (eI .i64) p1.aa)]]=some (.clean (.tup [.agg [.int .i64 r.1.aj,.sl false false r.1.aa.length (ab (eI .i64) r.1.aa)],.int .i64 r.2]),none):=by
 refine aw rfl Tryz.ntmps112 Tryz.results112 ?_
 unfold oY at hh
 obtain⟨r1,hr1,hh⟩:=ae hh
 try simp only[eu,seval,-Int.reduceToNat,hr1]
 obtain⟨o2,ho2,hh⟩:=ae hh
 refine bH 0 (fun s t H e=>match s with|s17j1=>∃v2j1:Nat,∃v3j1:Nat,∃v4j1:Nat,t 2=.ptr 2 v2j1 0∧t 3=.ptr 3 v3j1 0∧t 4=.ptr 4 v4j1 0∧t 17=.bool s17j1∧H 2=some ⟨v2j1,49,[.int .i64 p0.aj,.sl false false p0.aa.length (ab (eI .i64) p0.aa)],false,false,false⟩∧H 3=some ⟨v3j1,49,[.int .i64 p1.aj,.sl false false p1.aa.length (ab (eI .i64) p1.aa)],false,false,false⟩∧H 4=some ⟨v4j1,49,[.int .i64 0,.sl true true 0 []],false,false,false⟩) (fun s=>s=o2) ?_ ?_
 ·rintro s17j1 t H e ⟨v2j1,v3j1,v4j1,Zj1⟩ rfl
  try dsimp only at hh
  try simp only[eu,seval,-Int.reduceToNat,hr1,Zj1]
  refine sp an hh (fun _ hh =>?_) (fun _ hh =>?_)
  ·cases hh
   try simp only[eu,seval,-Int.reduceToNat,hr1,Zj1]
  ·try simp only[eu,seval,-Int.reduceToNat,hr1,Zj1]
   obtain⟨o6,ho6,hh⟩:=ae hh
   refine aB (fun s t H e=>match s with|(s6b,s7b)=>∃v4b:Nat,t 4=.ptr 4 v4b 0∧t 6=.sl false false s6b.length (ab (eI .i64) s6b)∧t 7=.sl false false s7b.length (ab (eI .i64) s7b)∧H 4=some ⟨v4b,49,[.int .i64 0,.sl true true 0 []],false,false,false⟩) (fun o x t H e=>match o with|s6bx=>x=.exit 0∧∃v4bx:Nat,t 4=.ptr 4 v4bx 0∧t 6=.sl false false s6bx.length (ab (eI .i64) s6bx)∧H 4=some ⟨v4bx,49,[.int .i64 0,.sl true true 0 []],false,false,false⟩) ho6 ?_ ?_ ?_
   ·refine⟨v4j1,?_,?_,?_,?_⟩
    all_goals first|rfl|(simp only[eu,seval,-Int.reduceToNat,hr1,Zj1]<;>rfl)
   ·rintro⟨s6b,s7b⟩ t H e ⟨v4b,Zb⟩ c hh
    simp only[oc]at hh
    try simp only[eu,seval,-Int.reduceToNat,hr1,Zb]
    refine sp an hh (fun _ hh =>?_) (fun _ hh =>?_)
    ·obtain⟨r8,hr8,hh⟩:=ae hh
     cases hh
     try simp only[eu,seval,-Int.reduceToNat,hr1,Zb,hr8]
     refine iS ?_
     refine⟨v4b,?_,?_,?_,?_⟩
     all_goals first|rfl|(simp only[eu,seval,-Int.reduceToNat,hr1,Zb,hr8]<;>rfl)
    ·cases hh
     try simp only[eu,seval,-Int.reduceToNat,hr1,Zb]
     refine ki ?_
     refine⟨rfl,⟨v4b,?_,?_,?_⟩⟩
     all_goals first|rfl|(simp only[eu,seval,-Int.reduceToNat,hr1,Zb]<;>rfl)
   ·rintro x t H e hx
    obtain⟨s6bx,rfl⟩:∃z,z=o6:=⟨_,rfl⟩
    dsimp only at hx hh
    obtain⟨rfl,⟨v4bx,Zbx⟩⟩:=hx
    obtain⟨r9,hr9,hh⟩:=ae hh
    cases hh
    try simp only[eu,seval,-Int.reduceToNat,hr1,Zbx,hr9]
 ·clear hh
  have hh:=ho2
  try simp only[eu,seval,-Int.reduceToNat,hr1]
  refine sp aR hh (fun _ hh =>?_) (fun _ hh =>?_)
  ·cases hh
   try simp only[eu,seval,-Int.reduceToNat,hr1]
   rw[al]
   refine⟨_,rfl,?_⟩
   refine⟨0,0,0,?_,?_,?_,?_,?_,?_,?_⟩
   all_goals first|rfl|(simp only[eu,seval,-Int.reduceToNat,hr1]<;>rfl)
  ·obtain⟨r11,hr11,hh⟩:=ae hh
   cases hh
   try simp only[eu,seval,-Int.reduceToNat,hr1,hr11]
   rw[al]
   refine⟨_,rfl,?_⟩
   refine⟨0,0,0,?_,?_,?_,?_,?_,?_,?_⟩
   all_goals first|rfl|(simp only[eu,seval,-Int.reduceToNat,hr1,hr11]<;>rfl)
theorem MN:bN Tryz.prog 112 xH:=bN.of (mode := .clean) tok Me mixed Tryz.func112 (by kernel_rfl) ⟨by kernel_rfl,by kernel_rfl⟩ (fun _=>Nat.le_of_ble_eq_true (by kernel_rfl)) (fun x r h=>P9 x.1 x.2 r h)
noncomputable def vE:=eB (dR (iG (eI .i64)) (dK (iG (eI .i64)))) (fun x:(List Int)×(List Int)=>tE x.1 x.2) (fun r:(List Int) =>.clean (.sl false false r.length (ab (eI .i64) r)))
theorem vR (p0:(List Int)) (p1:(List Int)):vE none [.sl false false p0.length (ab (eI .i64) p0),.sl false false p1.length (ab (eI .i64) p1)]=(tE p0 p1).map fun r:(List Int)=>(.clean (.sl false false r.length (ab (eI .i64) r)),none):=aJ _ _ _ (p0,p1)
noncomputable def qJ:Env:=(Am.ext (Am.ext aU 169 false jK) 175 false jZ)
theorem Ju:bT Tryz.prog qJ:=((bT.none.add me false).add nh false)
theorem dr:type_of% (ai @w<|ai @fB<|ai @gL<|@qJ.eq_1):=⟨@w,@fB,@gL,@qJ.eq_1⟩
theorem MB (p0:(List Int)) (p1:(List Int)) (r:(List Int)) (hh:tE p0 p1=some r):aS .clean tab qJ FU Tryz.f167 none [.sl false false p0.length (ab (eI .i64) p0),.sl false false p1.length (ab (eI .i64) p1)]=some (.clean (.sl false false r.length (ab (eI .i64) r)),none):=by
 refine aw rfl Tryz.ntmps167 Tryz.results167 ?_
 unfold tE at hh
 try simp only[dr,seval,-Int.reduceToNat]
 obtain⟨o13,ho13,hh⟩:=ae hh
 refine aB (fun s t H e=>match s with|(s6a,s7a,l5a)=>∃v5a:Nat,t 0=.sl false false p0.length (ab (eI .i64) p0)∧t 1=.sl false false p1.length (ab (eI .i64) p1)∧t 5=.buf 5 v5a 1 0 (l5a).length∧t 6=.int .i64 s6a∧t 7=.int .i64 s7a∧H 5=some ⟨v5a,3,ab (eI .i64) l5a,false,true,false⟩) (fun o x t H e=>match o with|l5ax=>x=.exit 0∧∃v5ax:Nat,t 5=.buf 5 v5ax 1 0 (l5ax).length∧H 5=some ⟨v5ax,3,ab (eI .i64) l5ax,false,true,false⟩) ho13 ?_ ?_ ?_
 ·refine⟨1,?_,?_,?_,?_,?_,?_⟩
  all_goals first|rfl|(simp only[dr,seval,-Int.reduceToNat]<;>rfl)
 ·rintro⟨s6a,s7a,l5a⟩ t H e ⟨v5a,Za⟩ c hh
  simp only[zC]at hh
  try simp only[dr,seval,-Int.reduceToNat,Za]
  obtain⟨o14,ho14,hh⟩:=ae hh
  refine bH 0 (fun s t H e=>match s with|s22j3=>∃v5j3:Nat,t 0=.sl false false p0.length (ab (eI .i64) p0)∧t 1=.sl false false p1.length (ab (eI .i64) p1)∧t 5=.buf 5 v5j3 1 0 (l5a).length∧t 6=.int .i64 s6a∧t 7=.int .i64 s7a∧t 22=.bool s22j3∧H 5=some ⟨v5j3,3,ab (eI .i64) l5a,false,true,false⟩) (fun s=>s=o14) ?_ ?_
  ·rintro s22j3 t H e ⟨v5j3,Zj3⟩ rfl
   try dsimp only at hh
   try simp only[dr,seval,-Int.reduceToNat,Zj3]
   refine sp an hh (fun _ hh =>?_) (fun _ hh =>?_)
   ·obtain⟨r16,hr16,hh⟩:=ae hh
    obtain⟨r17,hr17,hh⟩:=ae hh
    obtain⟨x18,hx18,hh⟩:=ae hh
    have q19:=oR hx18
    obtain⟨x20,hx20,hh⟩:=ae hh
    obtain⟨q21a,q21b,q21c,q21d⟩:=fD (eI .i64) hx20
    simp only[bU]at q21b
    obtain⟨x22,hx22,hh⟩:=ae hh
    have q23:=qz hx22
    cases hh
    try simp only[dr,seval,-Int.reduceToNat,Zj3,hr16,hr17,q19,q21a,q21b,q21c,q21d,q23]
    refine iS ?_
    refine⟨e+1,?_,?_,?_,?_,?_,?_⟩
    all_goals first|rfl|(simp only[dr,seval,-Int.reduceToNat,Zj3,hr16,hr17,q19,q21a,q21b,q21c,q21d,q23]<;>rfl)
   ·cases hh
    try simp only[dr,seval,-Int.reduceToNat,Zj3]
    refine ki ?_
    refine⟨rfl,⟨v5j3,?_,?_⟩⟩
    all_goals first|rfl|(simp only[dr,seval,-Int.reduceToNat,Zj3]<;>rfl)
  ·clear hh
   have hh:=ho14
   try simp only[dr,seval,-Int.reduceToNat,Za]
   refine sp aR hh (fun _ hh =>?_) (fun _ hh =>?_)
   ·cases hh
    try simp only[dr,seval,-Int.reduceToNat,Za]
    rw[al]
    refine⟨_,rfl,?_⟩
    refine⟨v5a,?_,?_,?_,?_,?_,?_,?_⟩
    all_goals first|rfl|(simp only[dr,seval,-Int.reduceToNat,Za]<;>rfl)
   ·try simp only[dr,seval,-Int.reduceToNat,Za]
    refine sp aR hh (fun _ hh =>?_) (fun _ hh =>?_)
    ·cases hh
     try simp only[dr,seval,-Int.reduceToNat,Za]
     rw[al]
     refine⟨_,rfl,?_⟩
     refine⟨v5a,?_,?_,?_,?_,?_,?_,?_⟩
     all_goals first|rfl|(simp only[dr,seval,-Int.reduceToNat,Za]<;>rfl)
    ·cases hh
     try simp only[dr,seval,-Int.reduceToNat,Za]
     rw[al]
     refine⟨_,rfl,?_⟩
     refine⟨v5a,?_,?_,?_,?_,?_,?_,?_⟩
     all_goals first|rfl|(simp only[dr,seval,-Int.reduceToNat,Za]<;>rfl)
 ·rintro x t H e hx
  obtain⟨l5ax,rfl⟩:∃z,z=o13:=⟨_,rfl⟩
  dsimp only at hx hh
  obtain⟨rfl,⟨v5ax,Zax⟩⟩:=hx
  obtain⟨r26,hr26,hh⟩:=ae hh
  cases hh
  try simp only[dr,seval,-Int.reduceToNat,Zax,hr26]
theorem KJ:bN Tryz.prog 167 vE:=bN.of (mode := .clean) tok Ju mixed Tryz.func167 (by kernel_rfl) ⟨by kernel_rfl,by kernel_rfl⟩ (fun _=>Nat.le_of_ble_eq_true (by kernel_rfl)) (fun x r h=>MB x.1 x.2 r h)
noncomputable def xG:=eB (dR (cR iB) (dK (cR iB))) (fun x:az×az=>uo x.1 x.2) (fun r:az×az×Int =>.clean (.tup [.agg [.int .i64 r.1.aj,.sl false false r.1.aa.length (ab (eI .i64) r.1.aa)],.agg [.int .i64 r.2.1.aj,.sl false false r.2.1.aa.length (ab (eI .i64) r.2.1.aa)],.int .i64 r.2.2]))
theorem FO (p0_0:Int) (p0_1:(List Int)) (p1_0:Int) (p1_1:(List Int)):xG none [.agg [.int .i64 p0_0,.sl false false p0_1.length (ab (eI .i64) p0_1)],.agg [.int .i64 p1_0,.sl false false p1_1.length (ab (eI .i64) p1_1)]]=(uo (az.mk p0_0 p0_1) (az.mk p1_0 p1_1)).map fun r:az×az×Int=>(.clean (.tup [.agg [.int .i64 r.1.aj,.sl false false r.1.aa.length (ab (eI .i64) r.1.aa)],.agg [.int .i64 r.2.1.aj,.sl false false r.2.1.aa.length (ab (eI .i64) r.2.1.aa)],.int .i64 r.2.2]),none):=aJ _ _ _ ((az.mk p0_0 p0_1),(az.mk p1_0 p1_1))
noncomputable def ub:Env:=(Am.ext (Am.ext (Am.ext (Am.ext (Am.ext aU 111 false jY) 133 false lk) 151 false pX) 167 false vE) 168 false ox)
theorem Md:bT Tryz.prog ub:=(((((bT.none.add ng false).add oS false).add zg false).add KJ false).add w8 false)
theorem cW:type_of% (ai @w<|ai @gK<|ai @iT<|ai @qT<|ai @vR<|ai @oX<|@ub.eq_1):=⟨@w,@gK,@iT,@qT,@vR,@oX,@ub.eq_1⟩
theorem P8 (p0:az) (p1:az) (r:az×az×Int) (hh:uo p0 p1=some r):aS .clean tab ub FU Tryz.f132 none [.agg [.int .i64 p0.aj,.sl false false p0.aa.length (ab (eI .i64) p0.aa)],.agg [.int .i64 p1.aj,.sl false false p1.aa.length (ab (eI .i64) p1.aa)]]=some (.clean (.tup [.agg [.int .i64 r.1.aj,.sl false false r.1.aa.length (ab (eI .i64) r.1.aa)],.agg [.int .i64 r.2.1.aj,.sl false false r.2.1.aa.length (ab (eI .i64) r.2.1.aa)],.int .i64 r.2.2]),none):=by
 refine aw rfl Tryz.ntmps132 Tryz.results132 ?_
 unfold uo at hh
 obtain⟨r1,hr1,hh⟩:=ae hh
 try simp only[cW,seval,-Int.reduceToNat,hr1]
 obtain⟨o2,ho2,hh⟩:=ae hh
 refine bH 0 (fun s t H e=>match s with|s16j1=>∃v2j1:Nat,∃v3j1:Nat,∃v4j1:Nat,∃v5j1:Nat,t 2=.ptr 2 v2j1 0∧t 3=.ptr 3 v3j1 0∧t 4=.ptr 4 v4j1 0∧t 5=.ptr 5 v5j1 0∧t 16=.bool s16j1∧H 2=some ⟨v2j1,49,[.int .i64 p0.aj,.sl false false p0.aa.length (ab (eI .i64) p0.aa)],false,false,false⟩∧H 3=some ⟨v3j1,49,[.int .i64 p1.aj,.sl false false p1.aa.length (ab (eI .i64) p1.aa)],false,false,false⟩∧H 4=some ⟨v4j1,49,[.int .i64 0,.sl true true 0 []],false,false,false⟩∧H 5=some ⟨v5j1,49,[.int .i64 0,.sl true true 0 []],false,false,false⟩) (fun s=>s=o2) ?_ ?_
 ·rintro s16j1 t H e ⟨v2j1,v3j1,v4j1,v5j1,Zj1⟩ rfl
  try dsimp only at hh
  try simp only[cW,seval,-Int.reduceToNat,hr1,Zj1]
  refine sp an hh (fun _ hh =>?_) (fun _ hh =>?_)
  ·cases hh
   try simp only[cW,seval,-Int.reduceToNat,hr1,Zj1]
  ·try simp only[cW,seval,-Int.reduceToNat,hr1,Zj1]
   refine sp an hh (fun _ hh =>?_) (fun _ hh =>?_)
   ·cases hh
    try simp only[cW,seval,-Int.reduceToNat,hr1,Zj1]
   ·obtain⟨r5,hr5,hh⟩:=ae hh
    try simp only[cW,seval,-Int.reduceToNat,hr1,Zj1,hr5]
    obtain⟨o6,ho6,hh⟩:=ae hh
    refine bH 0 (fun s t H e=>match s with|s42j2=>∃v2j2:Nat,∃v3j2:Nat,∃v4j2:Nat,∃v5j2:Nat,t 2=.ptr 2 v2j2 0∧t 3=.ptr 3 v3j2 0∧t 4=.ptr 4 v4j2 0∧t 5=.ptr 5 v5j2 0∧t 7=.sl false false r5.1.length (ab (eI .i64) r5.1)∧t 8=.sl false false r5.2.length (ab (eI .i64) r5.2)∧t 42=.bool s42j2∧H 2=some ⟨v2j2,49,[.int .i64 p0.aj,.sl false false p0.aa.length (ab (eI .i64) p0.aa)],false,false,false⟩∧H 3=some ⟨v3j2,49,[.int .i64 p1.aj,.sl false false p1.aa.length (ab (eI .i64) p1.aa)],false,false,false⟩∧H 4=some ⟨v4j2,49,[.int .i64 0,.sl true true 0 []],false,false,false⟩∧H 5=some ⟨v5j2,49,[.int .i64 0,.sl true true 0 []],false,false,false⟩) (fun s=>s=o6) ?_ ?_
    ·rintro s42j2 t H e ⟨v2j2,v3j2,v4j2,v5j2,Zj2⟩ rfl
     try dsimp only at hh
     try simp only[cW,seval,-Int.reduceToNat,hr1,hr5,Zj2]
     refine sp an hh (fun _ hh =>?_) (fun _ hh =>?_)
     ·obtain⟨r8,hr8,hh⟩:=ae hh
      obtain⟨r9,hr9,hh⟩:=ae hh
      try simp only[cW,seval,-Int.reduceToNat,hr1,hr5,Zj2,hr8,hr9]
      refine bX (by kernel_rfl) ?_
      cases hh
      try simp only[cW,seval,-Int.reduceToNat,hr1,hr5,Zj2,hr8,hr9]
     ·have i10:=vR r5.1 ([1])
      simp only[aM,bU,List.length_cons,List.length_nil,Nat.zero_add,Nat.reduceAdd,List.length_set]at i10
      obtain⟨r11,hr11,hh⟩:=ae hh
      obtain⟨r12,hr12,hh⟩:=ae hh
      obtain⟨r13,hr13,hh⟩:=ae hh
      obtain⟨r14,hr14,hh⟩:=ae hh
      try simp only[cW,seval,-Int.reduceToNat,hr1,hr5,Zj2,i10,hr11,hr12,hr13,hr14]
      refine bX (by kernel_rfl) ?_
      cases hh
      try simp only[cW,seval,-Int.reduceToNat,hr1,hr5,Zj2,i10,hr11,hr12,hr13,hr14]
    ·clear hh
     have hh:=ho6
     try simp only[cW,seval,-Int.reduceToNat,hr1,Zj1,hr5]
     refine sp aR hh (fun _ hh =>?_) (fun _ hh =>?_)
     ·cases hh
      try simp only[cW,seval,-Int.reduceToNat,hr1,Zj1,hr5]
      rw[al]
      refine⟨_,rfl,?_⟩
      refine⟨v2j1,v3j1,v4j1,v5j1,?_,?_,?_,?_,?_,?_,?_,?_,?_,?_,?_⟩
      all_goals first|rfl|(simp only[cW,seval,-Int.reduceToNat,hr1,Zj1,hr5]<;>rfl)
     ·cases hh
      try simp only[cW,seval,-Int.reduceToNat,hr1,Zj1,hr5]
      rw[al]
      refine⟨_,rfl,?_⟩
      refine⟨v2j1,v3j1,v4j1,v5j1,?_,?_,?_,?_,?_,?_,?_,?_,?_,?_,?_⟩
      all_goals first|rfl|(simp only[cW,seval,-Int.reduceToNat,hr1,Zj1,hr5]<;>rfl)
 ·clear hh
  have hh:=ho2
  try simp only[cW,seval,-Int.reduceToNat,hr1]
  refine sp aR hh (fun _ hh =>?_) (fun _ hh =>?_)
  ·cases hh
   try simp only[cW,seval,-Int.reduceToNat,hr1]
   rw[al]
   refine⟨_,rfl,?_⟩
   refine⟨0,0,0,0,?_,?_,?_,?_,?_,?_,?_,?_,?_⟩
   all_goals first|rfl|(simp only[cW,seval,-Int.reduceToNat,hr1]<;>rfl)
  ·obtain⟨r17,hr17,hh⟩:=ae hh
   cases hh
   try simp only[cW,seval,-Int.reduceToNat,hr1,hr17]
   rw[al]
   refine⟨_,rfl,?_⟩
   refine⟨0,0,0,0,?_,?_,?_,?_,?_,?_,?_,?_,?_⟩
   all_goals first|rfl|(simp only[cW,seval,-Int.reduceToNat,hr1,hr17]<;>rfl)
theorem MM:bN Tryz.prog 132 xG:=bN.of (mode := .clean) tok Md mixed Tryz.func132 (by kernel_rfl) ⟨by kernel_rfl,by kernel_rfl⟩ (fun _=>Nat.le_of_ble_eq_true (by kernel_rfl)) (fun x r h=>P8 x.1 x.2 r h)
noncomputable def xL:=eB (dR (cR iB) (dK (cR iB))) (fun x:az×az=>xl x.1 x.2) (fun r:ba×Int =>.clean (.tup [.agg [.int .i64 r.1.cz.aj,.sl false false r.1.cz.aa.length (ab (eI .i64) r.1.cz.aa),.int .i64 r.1.cw.aj,.sl false false r.1.cw.aa.length (ab (eI .i64) r.1.cw.aa)],.int .i64 r.2]))
theorem FV (p0_0:Int) (p0_1:(List Int)) (p1_0:Int) (p1_1:(List Int)):xL none [.agg [.int .i64 p0_0,.sl false false p0_1.length (ab (eI .i64) p0_1)],.agg [.int .i64 p1_0,.sl false false p1_1.length (ab (eI .i64) p1_1)]]=(xl (az.mk p0_0 p0_1) (az.mk p1_0 p1_1)).map fun r:ba×Int=>(.clean (.tup [.agg [.int .i64 r.1.cz.aj,.sl false false r.1.cz.aa.length (ab (eI .i64) r.1.cz.aa),.int .i64 r.1.cw.aj,.sl false false r.1.cw.aa.length (ab (eI .i64) r.1.cw.aa)],.int .i64 r.2]),none):=aJ _ _ _ ((az.mk p0_0 p0_1),(az.mk p1_0 p1_1))
noncomputable def uf:Env:=(Am.ext (Am.ext (Am.ext (Am.ext aU 111 false jY) 112 false xH) 131 false xI) 132 false xG)
theorem Mh:bT Tryz.prog uf:=((((bT.none.add ng false).add MN false).add MO false).add MM false)
theorem dV:type_of% (ai @w<|ai @gK<|ai @FP<|ai @FQ<|ai @FO<|@uf.eq_1):=⟨@w,@gK,@FP,@FQ,@FO,@uf.eq_1⟩
theorem Qd (p0:az) (p1:az) (r:ba×Int) (hh:xl p0 p1=some r):aS .clean tab uf FU Tryz.f102 none [.agg [.int .i64 p0.aj,.sl false false p0.aa.length (ab (eI .i64) p0.aa)],.agg [.int .i64 p1.aj,.sl false false p1.aa.length (ab (eI .i64) p1.aa)]]=some (.clean (.tup [.agg [.int .i64 r.1.cz.aj,.sl false false r.1.cz.aa.length (ab (eI .i64) r.1.cz.aa),.int .i64 r.1.cw.aj,.sl false false r.1.cw.aa.length (ab (eI .i64) r.1.cw.aa)],.int .i64 r.2]),none):=by
 refine aw rfl Tryz.ntmps102 Tryz.results102 ?_
 unfold xl at hh
 obtain⟨r1,hr1,hh⟩:=ae hh
 try simp only[dV,seval,-Int.reduceToNat,hr1]
 obtain⟨o2,ho2,hh⟩:=ae hh
 refine bH 0 (fun s t H e=>match s with|s21j1=>∃v2j1:Nat,∃v3j1:Nat,∃v4j1:Nat,t 2=.ptr 2 v2j1 0∧t 3=.ptr 3 v3j1 0∧t 4=.ptr 4 v4j1 0∧t 21=.bool s21j1∧H 2=some ⟨v2j1,49,[.int .i64 p0.aj,.sl false false p0.aa.length (ab (eI .i64) p0.aa)],false,false,false⟩∧H 3=some ⟨v3j1,49,[.int .i64 p1.aj,.sl false false p1.aa.length (ab (eI .i64) p1.aa)],false,false,false⟩∧H 4=some ⟨v4j1,51,[.int .i64 0,.sl true true 0 [],.int .i64 0,.sl true true 0 []],false,false,false⟩) (fun s=>s=o2) ?_ ?_
 ·rintro s21j1 t H e ⟨v2j1,v3j1,v4j1,Zj1⟩ rfl
  try dsimp only at hh
  try simp only[dV,seval,-Int.reduceToNat,hr1,Zj1]
  refine sp an hh (fun _ hh =>?_) (fun _ hh =>?_)
  ·cases hh
   try simp only[dV,seval,-Int.reduceToNat,hr1,Zj1]
  ·try simp only[dV,seval,-Int.reduceToNat,hr1,Zj1]
   refine sp an hh (fun _ hh =>?_) (fun _ hh =>?_)
   ·cases hh
    try simp only[dV,seval,-Int.reduceToNat,hr1,Zj1]
   ·try simp only[dV,seval,-Int.reduceToNat,hr1,Zj1]
    obtain⟨o5,ho5,hh⟩:=ae hh
    refine kX 0 (fun s t H e=>match s with|(r2_0j2,r2_1j2,r3_0j2,r3_1j2)=>∃v2j2:Nat,∃v3j2:Nat,∃v4j2:Nat,t 2=.ptr 2 v2j2 0∧t 3=.ptr 3 v3j2 0∧t 4=.ptr 4 v4j2 0∧H 2=some ⟨v2j2,49,[.int .i64 r2_0j2,.sl false false r2_1j2.length (ab (eI .i64) r2_1j2)],false,false,false⟩∧H 3=some ⟨v3j2,49,[.int .i64 r3_0j2,.sl false false r3_1j2.length (ab (eI .i64) r3_1j2)],false,false,false⟩∧H 4=some ⟨v4j2,51,[.int .i64 0,.sl true true 0 [],.int .i64 0,.sl true true 0 []],false,false,false⟩) (fun s=>s=o5) ?_ ?_
    ·rintro⟨r2_0j2,r2_1j2,r3_0j2,r3_1j2⟩ t H e ⟨v2j2,v3j2,v4j2,Zj2⟩ rfl
     try dsimp only at hh
     obtain⟨r6,hr6,hh⟩:=ae hh
     obtain⟨r7,hr7,hh⟩:=ae hh
     obtain⟨r8,hr8,hh⟩:=ae hh
     cases hh
     try simp only[dV,seval,-Int.reduceToNat,hr1,Zj2,hr6,hr7,hr8]
    ·clear hh
     have hh:=ho5
     try simp only[dV,seval,-Int.reduceToNat,hr1,Zj1]
     refine sp an hh (fun _ hh =>?_) (fun _ hh =>?_)
     ·obtain⟨r10,hr10,hh⟩:=ae hh
      obtain⟨r11,hr11,hh⟩:=ae hh
      cases hh
      try simp only[dV,seval,-Int.reduceToNat,hr1,Zj1,hr10,hr11]
      rw[al]
      refine⟨_,rfl,?_⟩
      refine⟨v2j1,v3j1,v4j1,?_,?_,?_,?_,?_,?_⟩
      all_goals first|rfl|(simp only[dV,seval,-Int.reduceToNat,hr1,Zj1,hr10,hr11]<;>rfl)
     ·cases hh
      try simp only[dV,seval,-Int.reduceToNat,hr1,Zj1]
      rw[al]
      refine⟨_,rfl,?_⟩
      refine⟨v2j1,v3j1,v4j1,?_,?_,?_,?_,?_,?_⟩
      all_goals first|rfl|(simp only[dV,seval,-Int.reduceToNat,hr1,Zj1]<;>rfl)
 ·clear hh
  have hh:=ho2
  try simp only[dV,seval,-Int.reduceToNat,hr1]
  refine sp aR hh (fun _ hh =>?_) (fun _ hh =>?_)
  ·cases hh
   try simp only[dV,seval,-Int.reduceToNat,hr1]
   rw[al]
   refine⟨_,rfl,?_⟩
   refine⟨0,0,0,?_,?_,?_,?_,?_,?_,?_⟩
   all_goals first|rfl|(simp only[dV,seval,-Int.reduceToNat,hr1]<;>rfl)
  ·obtain⟨r13,hr13,hh⟩:=ae hh
   cases hh
   try simp only[dV,seval,-Int.reduceToNat,hr1,hr13]
   rw[al]
   refine⟨_,rfl,?_⟩
   refine⟨0,0,0,?_,?_,?_,?_,?_,?_,?_⟩
   all_goals first|rfl|(simp only[dV,seval,-Int.reduceToNat,hr1,hr13]<;>rfl)
theorem MR:bN Tryz.prog 102 xL:=bN.of (mode := .clean) tok Mh mixed Tryz.func102 (by kernel_rfl) ⟨by kernel_rfl,by kernel_rfl⟩ (fun _=>Nat.le_of_ble_eq_true (by kernel_rfl)) (fun x r h=>Qd x.1 x.2 r h)
noncomputable def AG:=eB (dR (aI .i64) (dK (aI .i64))) (fun x:Int×Int=>CG x.1 x.2) (fun r:ba×Int =>.clean (.tup [.agg [.int .i64 r.1.cz.aj,.sl false false r.1.cz.aa.length (ab (eI .i64) r.1.cz.aa),.int .i64 r.1.cw.aj,.sl false false r.1.cw.aa.length (ab (eI .i64) r.1.cw.aa)],.int .i64 r.2]))
theorem KT (p0:Int) (p1:Int):AG none [.int .i64 p0,.int .i64 p1]=(CG p0 p1).map fun r:ba×Int=>(.clean (.tup [.agg [.int .i64 r.1.cz.aj,.sl false false r.1.cz.aa.length (ab (eI .i64) r.1.cz.aa),.int .i64 r.1.cw.aj,.sl false false r.1.cw.aa.length (ab (eI .i64) r.1.cw.aa)],.int .i64 r.2]),none):=aJ _ _ _ (p0,p1)
noncomputable def wR:Env:=(Am.ext (Am.ext aU 102 false xL) 103 false AF)
theorem PW:bT Tryz.prog wR:=((bT.none.add MR false).add Qn false)
theorem T9:type_of% (ai @w<|ai @FV<|ai @KS<|@wR.eq_1):=⟨@w,@FV,@KS,@wR.eq_1⟩
theorem Sr (p0:Int) (p1:Int) (r:ba×Int) (hh:CG p0 p1=some r):aS .clean tab wR FU Tryz.f59 none [.int .i64 p0,.int .i64 p1]=some (.clean (.tup [.agg [.int .i64 r.1.cz.aj,.sl false false r.1.cz.aa.length (ab (eI .i64) r.1.cz.aa),.int .i64 r.1.cw.aj,.sl false false r.1.cw.aa.length (ab (eI .i64) r.1.cw.aa)],.int .i64 r.2]),none):=by
 refine aw rfl Tryz.ntmps59 Tryz.results59 ?_
 unfold CG at hh
 obtain⟨r1,hr1,hh⟩:=ae hh
 obtain⟨r2,hr2,hh⟩:=ae hh
 obtain⟨r3,hr3,hh⟩:=ae hh
 cases hh
 try simp only[T9,seval,-Int.reduceToNat,hr1,hr2,hr3]
theorem Qo:bN Tryz.prog 59 AG:=bN.of (mode := .clean) tok PW mixed Tryz.func59 (by kernel_rfl) ⟨by kernel_rfl,by kernel_rfl⟩ (fun _=>Nat.le_of_ble_eq_true (by kernel_rfl)) (fun x r h=>Sr x.1 x.2 r h)
noncomputable def xK:=eB (dK (aI .i64)) (fun x:Int=>uv x) (fun r:ba =>.clean (.agg [.int .i64 r.cz.aj,.sl false false r.cz.aa.length (ab (eI .i64) r.cz.aa),.int .i64 r.cw.aj,.sl false false r.cw.aa.length (ab (eI .i64) r.cw.aa)]))
theorem FT (p0:Int):xK none [.int .i64 p0]=(uv p0).map fun r:ba=>(.clean (.agg [.int .i64 r.cz.aj,.sl false false r.cz.aa.length (ab (eI .i64) r.cz.aa),.int .i64 r.cw.aj,.sl false false r.cw.aa.length (ab (eI .i64) r.cw.aa)]),none):=aJ _ _ _ (p0)
noncomputable def ue:Env:=(Am.ext aU 59 false AG)
theorem Mg:bT Tryz.prog ue:=(bT.none.add Qo false)
theorem QN:type_of% (ai @w<|ai @KT<|@ue.eq_1):=⟨@w,@KT,@ue.eq_1⟩
theorem Qc (p0:Int) (r:ba) (hh:uv p0=some r):aS .clean tab ue FU Tryz.f32 none [.int .i64 p0]=some (.clean (.agg [.int .i64 r.cz.aj,.sl false false r.cz.aa.length (ab (eI .i64) r.cz.aa),.int .i64 r.cw.aj,.sl false false r.cw.aa.length (ab (eI .i64) r.cw.aa)]),none):=by
 refine aw rfl Tryz.ntmps32 Tryz.results32 ?_
 unfold uv at hh
 obtain⟨r1,hr1,hh⟩:=ae hh
 cases hh
 try simp only[QN,seval,-Int.reduceToNat,hr1]
theorem MQ:bN Tryz.prog 32 xK:=bN.of (mode := .clean) tok Mg mixed Tryz.func32 (by kernel_rfl) ⟨by kernel_rfl,by kernel_rfl⟩ (fun _=>Nat.le_of_ble_eq_true (by kernel_rfl)) (fun x r h=>Qc x r h)
noncomputable def pj:=eB (dR (aI .i64) (dK (aI .i64))) (fun x:Int×Int=>gI x.1 x.2) (fun r:ew =>.clean (.agg [.int .i64 r.bB.cz.aj,.sl false false r.bB.cz.aa.length (ab (eI .i64) r.bB.cz.aa),.int .i64 r.bB.cw.aj,.sl false false r.bB.cw.aa.length (ab (eI .i64) r.bB.cw.aa),.int .i64 r.aV.cz.aj,.sl false false r.aV.cz.aa.length (ab (eI .i64) r.aV.cz.aa),.int .i64 r.aV.cw.aj,.sl false false r.aV.cw.aa.length (ab (eI .i64) r.aV.cw.aa)]))
theorem vg (p0:Int) (p1:Int):pj none [.int .i64 p0,.int .i64 p1]=(gI p0 p1).map fun r:ew=>(.clean (.agg [.int .i64 r.bB.cz.aj,.sl false false r.bB.cz.aa.length (ab (eI .i64) r.bB.cz.aa),.int .i64 r.bB.cw.aj,.sl false false r.bB.cw.aa.length (ab (eI .i64) r.bB.cw.aa),.int .i64 r.aV.cz.aj,.sl false false r.aV.cz.aa.length (ab (eI .i64) r.aV.cz.aa),.int .i64 r.aV.cw.aj,.sl false false r.aV.cw.aa.length (ab (eI .i64) r.aV.cw.aa)]),none):=aJ _ _ _ (p0,p1)
noncomputable def lT:Env:=(Am.ext aU 32 false xK)
theorem BX:bT Tryz.prog lT:=(bT.none.add MQ false)
theorem Ea:type_of% (ai @w<|ai @FT<|@lT.eq_1):=⟨@w,@FT,@lT.eq_1⟩
theorem DN (p0:Int) (p1:Int) (r:ew) (hh:gI p0 p1=some r):aS .clean tab lT FU Tryz.f35 none [.int .i64 p0,.int .i64 p1]=some (.clean (.agg [.int .i64 r.bB.cz.aj,.sl false false r.bB.cz.aa.length (ab (eI .i64) r.bB.cz.aa),.int .i64 r.bB.cw.aj,.sl false false r.bB.cw.aa.length (ab (eI .i64) r.bB.cw.aa),.int .i64 r.aV.cz.aj,.sl false false r.aV.cz.aa.length (ab (eI .i64) r.aV.cz.aa),.int .i64 r.aV.cw.aj,.sl false false r.aV.cw.aa.length (ab (eI .i64) r.aV.cw.aa)]),none):=by
 refine aw rfl Tryz.ntmps35 Tryz.results35 ?_
 unfold gI at hh
 obtain⟨r1,hr1,hh⟩:=ae hh
 obtain⟨r2,hr2,hh⟩:=ae hh
 cases hh
 try simp only[Ea,seval,-Int.reduceToNat,hr1,hr2]
theorem Cs:bN Tryz.prog 35 pj:=bN.of (mode := .clean) tok BX mixed Tryz.func35 (by kernel_rfl) ⟨by kernel_rfl,by kernel_rfl⟩ (fun _=>Nat.le_of_ble_eq_true (by kernel_rfl)) (fun x r h=>DN x.1 x.2 r h)
noncomputable def iL:=eB (dK (cR iB)) (fun x:az=>er x) (fun r:Bool =>.clean (.bool r))
theorem fh (p0_0:Int) (p0_1:(List Int)):iL none [.agg [.int .i64 p0_0,.sl false false p0_1.length (ab (eI .i64) p0_1)]]=(er (az.mk p0_0 p0_1)).map fun r:Bool=>(.clean (.bool r),none):=aJ _ _ _ ((az.mk p0_0 p0_1))
theorem J5 (p0:az) (r:Bool) (hh:er p0=some r):aS .clean tab aU FU Tryz.f97 none [.agg [.int .i64 p0.aj,.sl false false p0.aa.length (ab (eI .i64) p0.aa)]]=some (.clean (.bool r),none):=by
 refine aw rfl Tryz.ntmps97 Tryz.results97 ?_
 unfold er at hh
 try simp only[w,seval,-Int.reduceToNat]
 obtain⟨o5,ho5,hh⟩:=ae hh
 refine aB (fun s t H e=>match s with|s12a=>∃v1a:Nat,t 1=.ptr 1 v1a 0∧t 3=.int .i64 (p0.aa.length:Int)∧t 10=.sl false false p0.aa.length (ab (eI .i64) p0.aa)∧t 11=.int .i64 (p0.aa.length:Int)∧t 12=.int .i64 s12a∧H 1=some ⟨v1a,49,[.int .i64 p0.aj,.sl false false p0.aa.length (ab (eI .i64) p0.aa)],false,false,false⟩) (fun o x t H e=>match o with|(.inl _)=>x=.exit 0∧∃v1ax:Nat,t 1=.ptr 1 v1ax 0∧t 3=.int .i64 (p0.aa.length:Int)∧H 1=some ⟨v1ax,49,[.int .i64 p0.aj,.sl false false p0.aa.length (ab (eI .i64) p0.aa)],false,false,false⟩|(.inr r)=>x=.ret∧gj .clean tab none [.tmp 2] ⟨t,H,e⟩=some (.clean (.bool r),none)) ho5 ?_ ?_ ?_
 ·refine⟨0,?_,?_,?_,?_,?_,?_⟩
  all_goals first|rfl|(simp only[w,seval,-Int.reduceToNat]<;>rfl)
 ·rintro s12a t H e ⟨v1a,Za⟩ c hh
  simp only[mM]at hh
  try simp only[w,seval,-Int.reduceToNat,Za]
  refine sp an hh (fun _ hh =>?_) (fun _ hh =>?_)
  ·obtain⟨x7,hx7,hh⟩:=ae hh
   have ax7:=bF (eI .i64) hx7
   simp only[bU]at ax7
   try simp only[w,seval,-Int.reduceToNat,Za,ax7]
   refine sp aR hh (fun _ hh =>?_) (fun _ hh =>?_)
   ·cases hh
    try simp only[w,seval,-Int.reduceToNat,Za,ax7]
    refine ti ⟨rfl,?_⟩
    try simp only[w,seval,-Int.reduceToNat,Za,ax7]
   ·try simp only[w,seval,-Int.reduceToNat,Za,ax7]
    refine sp an hh (fun _ hh =>?_) (fun _ hh =>?_)
    ·cases hh
     try simp only[w,seval,-Int.reduceToNat,Za,ax7]
     refine ti ⟨rfl,?_⟩
     try simp only[w,seval,-Int.reduceToNat,Za,ax7]
    ·cases hh
     try simp only[w,seval,-Int.reduceToNat,Za,ax7]
     refine iS ?_
     refine⟨v1a,?_,?_,?_,?_,?_,?_⟩
     all_goals first|rfl|(simp only[w,seval,-Int.reduceToNat,Za,ax7]<;>rfl)
  ·cases hh
   try simp only[w,seval,-Int.reduceToNat,Za]
   refine ki ?_
   refine⟨rfl,⟨v1a,?_,?_,?_⟩⟩
   all_goals first|rfl|(simp only[w,seval,-Int.reduceToNat,Za]<;>rfl)
 ·rintro x t H e hx
  rcases o5 with _|ra
  ·dsimp only at hx hh
   obtain⟨rfl,⟨v1ax,Zax⟩⟩:=hx
   try simp only[w,seval,-Int.reduceToNat,Zax]
   refine sp an hh (fun _ hh =>?_) (fun _ hh =>?_)
   ·cases hh
    try simp only[w,seval,-Int.reduceToNat,Zax]
   ·try simp only[w,seval,-Int.reduceToNat,Zax]
    refine sp aR hh (fun _ hh =>?_) (fun _ hh =>?_)
    ·obtain⟨x12,hx12,hh⟩:=ae hh
     have ax12:=bF (eI .i64) hx12
     simp only[bU]at ax12
     cases hh
     try simp only[w,seval,-Int.reduceToNat,Zax,ax12]
    ·try simp only[w,seval,-Int.reduceToNat,Zax]
     refine sp bk hh (fun _ hh =>?_) (fun _ hh =>?_)
     ·obtain⟨x14,hx14,hh⟩:=ae hh
      have ax14:=bF (eI .i64) hx14
      simp only[bU]at ax14
      cases hh
      try simp only[w,seval,-Int.reduceToNat,Zax,ax14]
     ·cases hh
      try simp only[w,seval,-Int.reduceToNat,Zax]
  ·dsimp only at hx hh
   obtain⟨rfl,hE⟩:=hx
   cases hh
   try simp only[bq,bc,bC,cP,cO]
   exact hE
theorem kE:bN Tryz.prog 97 iL:=bN.of (mode := .clean) tok bT.none mixed Tryz.func97 (by kernel_rfl) ⟨by kernel_rfl,by kernel_rfl⟩ (fun _=>Nat.le_of_ble_eq_true (by kernel_rfl)) (fun x r h=>J5 x r h)
noncomputable def lH:=eB (dR WX (dK (cR iB))) (fun x:Bool×az=>fJ x.1 x.2) (fun r:az×Int =>.clean (.tup [.agg [.int .i64 r.1.aj,.sl false false r.1.aa.length (ab (eI .i64) r.1.aa)],.int .i64 r.2]))
theorem il (p0:Bool) (p1_0:Int) (p1_1:(List Int)):lH none [.bool p0,.agg [.int .i64 p1_0,.sl false false p1_1.length (ab (eI .i64) p1_1)]]=(fJ p0 (az.mk p1_0 p1_1)).map fun r:az×Int=>(.clean (.tup [.agg [.int .i64 r.1.aj,.sl false false r.1.aa.length (ab (eI .i64) r.1.aa)],.int .i64 r.2]),none):=aJ _ _ _ (p0,(az.mk p1_0 p1_1))
theorem DK (p0:Bool) (p1:az) (r:az×Int) (hh:fJ p0 p1=some r):aS .clean tab aU FU Tryz.f124 none [.bool p0,.agg [.int .i64 p1.aj,.sl false false p1.aa.length (ab (eI .i64) p1.aa)]]=some (.clean (.tup [.agg [.int .i64 r.1.aj,.sl false false r.1.aa.length (ab (eI .i64) r.1.aa)],.int .i64 r.2]),none):=by
 refine aw rfl Tryz.ntmps124 Tryz.results124 ?_
 unfold fJ at hh
 try simp only[w,seval,-Int.reduceToNat]
 refine sp an hh (fun _ hh =>?_) (fun _ hh =>?_)
 ·cases hh
  try simp only[w,seval,-Int.reduceToNat]
 ·cases hh
  try simp only[w,seval,-Int.reduceToNat]
theorem tu:bN Tryz.prog 124 lH:=bN.of (mode := .clean) tok bT.none mixed Tryz.func124 (by kernel_rfl) ⟨by kernel_rfl,by kernel_rfl⟩ (fun _=>Nat.le_of_ble_eq_true (by kernel_rfl)) (fun x r h=>DK x.1 x.2 r h)
noncomputable def ow:=eB (dK (aI .i64)) (fun x:Int=>ja x) (fun r:Bool =>.clean (.bool r))
theorem oV (p0:Int):ow none [.int .i64 p0]=(ja p0).map fun r:Bool=>(.clean (.bool r),none):=aJ _ _ _ (p0)
theorem J7 (p0:Int) (r:Bool) (hh:ja p0=some r):aS .clean tab aU FU Tryz.f166 none [.int .i64 p0]=some (.clean (.bool r),none):=by
 refine aw rfl Tryz.ntmps166 Tryz.results166 ?_
 unfold ja at hh
 cases hh
 try simp only[w,seval,-Int.reduceToNat]
theorem w7:bN Tryz.prog 166 ow:=bN.of (mode := .clean) tok bT.none mixed Tryz.func166 (by kernel_rfl) ⟨by kernel_rfl,by kernel_rfl⟩ (fun _=>Nat.le_of_ble_eq_true (by kernel_rfl)) (fun x r h=>J7 x r h)
noncomputable def lJ:=eB (dR (aI .i64) (dK (aI .i64))) (fun x:Int×Int=>fL x.1 x.2) (fun r:Int =>.clean (.int .i64 r))
theorem lY (p0:Int) (p1:Int):lJ none [.int .i64 p0,.int .i64 p1]=(fL p0 p1).map fun r:Int=>(.clean (.int .i64 r),none):=aJ _ _ _ (p0,p1)
noncomputable def lS:Env:=(Am.ext aU 166 false ow)
theorem BW:bT Tryz.prog lS:=(bT.none.add w7 false)
theorem dI:type_of% (ai @w<|ai @oV<|@lS.eq_1):=⟨@w,@oV,@lS.eq_1⟩
theorem DM (p0:Int) (p1:Int) (r:Int) (hh:fL p0 p1=some r):aS .clean tab lS FU Tryz.f128 none [.int .i64 p0,.int .i64 p1]=some (.clean (.int .i64 r),none):=by
 refine aw rfl Tryz.ntmps128 Tryz.results128 ?_
 unfold fL at hh
 obtain⟨r1,hr1,hh⟩:=ae hh
 obtain⟨r2,hr2,hh⟩:=ae hh
 try simp only[dI,seval,-Int.reduceToNat,hr1,hr2]
 refine sp an hh (fun _ hh =>?_) (fun _ hh =>?_)
 ·try simp only[dI,seval,-Int.reduceToNat,hr1,hr2]
  refine sp an hh (fun _ hh =>?_) (fun _ hh =>?_)
  ·cases hh
   try simp only[dI,seval,-Int.reduceToNat,hr1,hr2]
  ·cases hh
   try simp only[dI,seval,-Int.reduceToNat,hr1,hr2]
 ·try simp only[dI,seval,-Int.reduceToNat,hr1,hr2]
  refine sp an hh (fun _ hh =>?_) (fun _ hh =>?_)
  ·cases hh
   try simp only[dI,seval,-Int.reduceToNat,hr1,hr2]
  ·try simp only[dI,seval,-Int.reduceToNat,hr1,hr2]
   refine sp an hh (fun _ hh =>?_) (fun _ hh =>?_)
   ·cases hh
    try simp only[dI,seval,-Int.reduceToNat,hr1,hr2]
   ·try simp only[dI,seval,-Int.reduceToNat,hr1,hr2]
    refine sp an hh (fun _ hh =>?_) (fun _ hh =>?_)
    ·cases hh
     try simp only[dI,seval,-Int.reduceToNat,hr1,hr2]
    ·cases hh
     try simp only[dI,seval,-Int.reduceToNat,hr1,hr2]
theorem tx:bN Tryz.prog 128 lJ:=bN.of (mode := .clean) tok BW mixed Tryz.func128 (by kernel_rfl) ⟨by kernel_rfl,by kernel_rfl⟩ (fun _=>Nat.le_of_ble_eq_true (by kernel_rfl)) (fun x r h=>DM x.1 x.2 r h)
noncomputable def lI:=eB (dR (iG (eI .i64)) (dK (iG (eI .i64)))) (fun x:(List Int)×(List Int)=>fc x.1 x.2) (fun r:Int =>.clean (.int .i64 r))
theorem lX (p0:(List Int)) (p1:(List Int)):lI none [.sl false false p0.length (ab (eI .i64) p0),.sl false false p1.length (ab (eI .i64) p1)]=(fc p0 p1).map fun r:Int=>(.clean (.int .i64 r),none):=aJ _ _ _ (p0,p1)
noncomputable def lR:Env:=(Am.ext aU 128 false lJ)
theorem BV:bT Tryz.prog lR:=(bT.none.add tx false)
theorem cD:type_of% (ai @w<|ai @lY<|@lR.eq_1):=⟨@w,@lY,@lR.eq_1⟩
theorem DL (p0:(List Int)) (p1:(List Int)) (r:Int) (hh:fc p0 p1=some r):aS .clean tab lR FU Tryz.f129 none [.sl false false p0.length (ab (eI .i64) p0),.sl false false p1.length (ab (eI .i64) p1)]=some (.clean (.int .i64 r),none):=by
 refine aw rfl Tryz.ntmps129 Tryz.results129 ?_
 unfold fc at hh
 try simp only[cD,seval,-Int.reduceToNat]
 refine sp an hh (fun _ hh =>?_) (fun _ hh =>?_)
 ·obtain⟨r2,hr2,hh⟩:=ae hh
  cases hh
  try simp only[cD,seval,-Int.reduceToNat,hr2]
 ·try simp only[cD,seval,-Int.reduceToNat]
  obtain⟨o8,ho8,hh⟩:=ae hh
  refine aB (fun s t H e=>match s with|s5a=>t 0=.sl false false p0.length (ab (eI .i64) p0)∧t 1=.sl false false p1.length (ab (eI .i64) p1)∧t 5=.int .i64 s5a) (fun o x t H e=>match o with|(.inl _)=>x=.exit 0|(.inr r)=>x=.ret∧gj .clean tab none [.tmp 4] ⟨t,H,e⟩=some (.clean (.int .i64 r),none)) ho8 ?_ ?_ ?_
  ·refine⟨?_,?_,?_⟩
   all_goals first|rfl|(simp only[cD,seval,-Int.reduceToNat]<;>rfl)
  ·rintro s5a t H e Za c hh
   simp only[ku]at hh
   try simp only[cD,seval,-Int.reduceToNat,Za]
   refine sp an hh (fun _ hh =>?_) (fun _ hh =>?_)
   ·obtain⟨x10,hx10,hh⟩:=ae hh
    have ax10:=bF (eI .i64) hx10
    simp only[bU]at ax10
    obtain⟨x11,hx11,hh⟩:=ae hh
    have ax11:=bF (eI .i64) hx11
    simp only[bU]at ax11
    try simp only[cD,seval,-Int.reduceToNat,Za,ax10,ax11]
    refine bX (by kernel_rfl) ?_
    try simp only[cD,seval,-Int.reduceToNat,Za,ax10,ax11]
    refine sp an hh (fun _ hh =>?_) (fun _ hh =>?_)
    ·have ax10:=bF (eI .i64) hx10
     simp only[bU]at ax10
     have ax11:=bF (eI .i64) hx11
     simp only[bU]at ax11
     obtain⟨r13,hr13,hh⟩:=ae hh
     try simp only[cD,seval,-Int.reduceToNat,Za,ax10,ax11,ax10,ax11,hr13]
     refine bX (by kernel_rfl) ?_
     cases hh
     try simp only[cD,seval,-Int.reduceToNat,Za,ax10,ax11,ax10,ax11,hr13]
     refine ti ⟨rfl,?_⟩
     try simp only[cD,seval,-Int.reduceToNat,Za,ax10,ax11,ax10,ax11,hr13]
    ·cases hh
     try simp only[cD,seval,-Int.reduceToNat,Za,ax10,ax11]
     refine iS ?_
     refine⟨?_,?_,?_⟩
     all_goals first|rfl|(simp only[cD,seval,-Int.reduceToNat,Za,ax10,ax11]<;>rfl)
   ·cases hh
    try simp only[cD,seval,-Int.reduceToNat,Za]
    refine ki ?_
    exact rfl
  ·rintro x t H e hx
   rcases o8 with _|ra
   ·dsimp only at hx hh
    subst hx
    cases hh
    try simp only[cD,seval,-Int.reduceToNat]
   ·dsimp only at hx hh
    obtain⟨rfl,hE⟩:=hx
    cases hh
    try simp only[bq,bc,bC,cP,cO]
    exact hE
theorem tv:bN Tryz.prog 129 lI:=bN.of (mode := .clean) tok BV mixed Tryz.func129 (by kernel_rfl) ⟨by kernel_rfl,by kernel_rfl⟩ (fun _=>Nat.le_of_ble_eq_true (by kernel_rfl)) (fun x r h=>DL x.1 x.2 r h)
noncomputable def nH:=eB (dK (iG (eI .i64))) (fun x:(List Int)=>eD x) (fun r:(List Int) =>.clean (.sl false false r.length (ab (eI .i64) r)))
theorem jO (p0:(List Int)):nH none [.sl false false p0.length (ab (eI .i64) p0)]=(eD p0).map fun r:(List Int)=>(.clean (.sl false false r.length (ab (eI .i64) r)),none):=aJ _ _ _ (p0)
theorem Ms (p0:(List Int)) (r:(List Int)) (hh:eD p0=some r):aS .clean tab aU FU Tryz.f163 none [.sl false false p0.length (ab (eI .i64) p0)]=some (.clean (.sl false false r.length (ab (eI .i64) r)),none):=by
 refine aw rfl Tryz.ntmps163 Tryz.results163 ?_
 unfold eD at hh
 try simp only[w,seval,-Int.reduceToNat]
 obtain⟨o4,ho4,hh⟩:=ae hh
 refine aB (fun s t H e=>match s with|s3a=>t 0=.sl false false p0.length (ab (eI .i64) p0)∧t 3=.int .i64 s3a) (fun o x t H e=>match o with|s3ax=>x=.exit 0∧t 0=.sl false false p0.length (ab (eI .i64) p0)∧t 3=.int .i64 s3ax) ho4 ?_ ?_ ?_
 ·refine⟨?_,?_⟩
  all_goals first|rfl|(simp only[w,seval,-Int.reduceToNat]<;>rfl)
 ·rintro s3a t H e Za c hh
  simp only[j6]at hh
  try simp only[w,seval,-Int.reduceToNat,Za]
  refine sp bk hh (fun _ hh =>?_) (fun _ hh =>?_)
  ·obtain⟨x6,hx6,hh⟩:=ae hh
   have ax6:=bF (eI .i64) hx6
   simp only[bU]at ax6
   try simp only[w,seval,-Int.reduceToNat,Za,ax6]
   refine sp an hh (fun _ hh =>?_) (fun _ hh =>?_)
   ·cases hh
    try simp only[w,seval,-Int.reduceToNat,Za,ax6]
    refine iS ?_
    refine⟨?_,?_⟩
    all_goals first|rfl|(simp only[w,seval,-Int.reduceToNat,Za,ax6]<;>rfl)
   ·cases hh
    try simp only[w,seval,-Int.reduceToNat,Za,ax6]
    refine ki ?_
    refine⟨rfl,⟨?_,?_⟩⟩
    all_goals first|rfl|(simp only[w,seval,-Int.reduceToNat,Za,ax6]<;>rfl)
  ·cases hh
   try simp only[w,seval,-Int.reduceToNat,Za]
   refine ki ?_
   refine⟨rfl,⟨?_,?_⟩⟩
   all_goals first|rfl|(simp only[w,seval,-Int.reduceToNat,Za]<;>rfl)
 ·rintro x t H e hx
  obtain⟨s3ax,rfl⟩:∃z,z=o4:=⟨_,rfl⟩
  dsimp only at hx hh
  obtain⟨rfl,Zax⟩:=hx
  obtain⟨x8,hx8,hh⟩:=ae hh
  obtain⟨q9a,q9b,q9c,q9d,q9e⟩:=CW (eI .i64) hx8
  simp only[bU]at q9e
  cases hh
  try simp only[w,seval,-Int.reduceToNat,Zax,q9a,q9b,q9c,q9d,q9e]
theorem tw:bN Tryz.prog 163 nH:=bN.of (mode := .clean) tok bT.none mixed Tryz.func163 (by kernel_rfl) ⟨by kernel_rfl,by kernel_rfl⟩ (fun _=>Nat.le_of_ble_eq_true (by kernel_rfl)) (fun x r h=>Ms x r h)
noncomputable def pU:=VK 3 (eI .i64) (Ua) (fun (l:(List Int)) (x:Unit)=>eD l)
theorem HF (pre post:List D) (p0:(List Int)):pU (some (.buf 0 0 1 pre.length p0.length,⟨0,3,pre++(ab (eI .i64) p0++post),false,true,false⟩)) []=(eD p0).map fun r=>(.fresh 3 1 r.length (ab (eI .i64) r),none):=Sv _ _ _ _ pre post p0 ()
theorem G6 (pre post:List D) (p0:(List Int)) (r:(List Int)) (hh:eD p0=some r):aS (.fresh 3 1) tab aU FU Tryz.f163 (some (.buf 0 0 1 pre.length p0.length,⟨0,3,pre++(ab (eI .i64) p0++post),false,true,false⟩)) []=some (.fresh 3 1 r.length (ab (eI .i64) r),none):=by
 refine oo rfl Tryz.ntmps163 Tryz.results163 ?_
 unfold eD at hh
 try simp only[w,seval,-Int.reduceToNat]
 obtain⟨o4,ho4,hh⟩:=ae hh
 refine aB (fun s t H e=>match s with|s3a=>∃v0a:Nat,t 0=.buf 0 v0a 1 pre.length (p0).length∧t 3=.int .i64 s3a∧H 0=some ⟨v0a,3,pre++(ab (eI .i64) p0++post),false,true,false⟩) (fun o x t H e=>match o with|s3ax=>x=.exit 0∧∃v0ax:Nat,t 0=.buf 0 v0ax 1 pre.length (p0).length∧t 3=.int .i64 s3ax∧H 0=some ⟨v0ax,3,pre++(ab (eI .i64) p0++post),false,true,false⟩) ho4 ?_ ?_ ?_
 ·refine⟨0,?_,?_,?_⟩
  all_goals first|rfl|(simp only[w,seval,-Int.reduceToNat]<;>rfl)
 ·rintro s3a t H e ⟨v0a,Za⟩ c hh
  simp only[j6]at hh
  try simp only[w,seval,-Int.reduceToNat,Za]
  refine sp bk hh (fun _ hh =>?_) (fun _ hh =>?_)
  ·obtain⟨x6,hx6,hh⟩:=ae hh
   have ax6:=s7 (pre:=pre) (post:=post) (eI .i64) hx6
   simp only[bU]at ax6
   try simp only[w,seval,-Int.reduceToNat,Za,ax6]
   refine sp an hh (fun _ hh =>?_) (fun _ hh =>?_)
   ·cases hh
    try simp only[w,seval,-Int.reduceToNat,Za,ax6]
    refine iS ?_
    refine⟨v0a,?_,?_,?_⟩
    all_goals first|rfl|(simp only[w,seval,-Int.reduceToNat,Za,ax6]<;>rfl)
   ·cases hh
    try simp only[w,seval,-Int.reduceToNat,Za,ax6]
    refine ki ?_
    refine⟨rfl,⟨v0a,?_,?_,?_⟩⟩
    all_goals first|rfl|(simp only[w,seval,-Int.reduceToNat,Za,ax6]<;>rfl)
  ·cases hh
   try simp only[w,seval,-Int.reduceToNat,Za]
   refine ki ?_
   refine⟨rfl,⟨v0a,?_,?_,?_⟩⟩
   all_goals first|rfl|(simp only[w,seval,-Int.reduceToNat,Za]<;>rfl)
 ·rintro x t H e hx
  obtain⟨s3ax,rfl⟩:∃z,z=o4:=⟨_,rfl⟩
  dsimp only at hx hh
  obtain⟨rfl,⟨v0ax,Zax⟩⟩:=hx
  obtain⟨x8,hx8,hh⟩:=ae hh
  obtain⟨q9a,q9b,q9c,q9d,q9e⟩:=CW (eI .i64) hx8
  simp only[bU]at q9e
  obtain⟨q9f,q9g⟩:=UY (pre:=pre) (post:=post) (eI .i64) hx8
  simp only[bU]at q9f q9g
  cases hh
  try simp only[w,seval,-Int.reduceToNat,Zax,q9a,q9b,q9c,q9f,q9g,q9d]
theorem DS:bN Tryz.prog 163 pU:=bN.Xi tok bT.none mixed Tryz.func163 (by kernel_rfl) ⟨by kernel_rfl,by kernel_rfl⟩ (fun _=>Nat.le_of_ble_eq_true (by kernel_rfl)) (fun pre post l x r h=>G6 pre post l r h)
noncomputable def sh:=eB (dR (iG (eI .i64)) (dK (aI .i64))) (fun x:(List Int)×Int=>j5 x.1 x.2) (fun r:(List Int)×Int =>.clean (.tup [.sl false false r.1.length (ab (eI .i64) r.1),.int .i64 r.2]))
theorem zm (p0:(List Int)) (p1:Int):sh none [.sl false false p0.length (ab (eI .i64) p0),.int .i64 p1]=(j5 p0 p1).map fun r:(List Int)×Int=>(.clean (.tup [.sl false false r.1.length (ab (eI .i64) r.1),.int .i64 r.2]),none):=aJ _ _ _ (p0,p1)
noncomputable def oF:Env:=(Am.ext aU 163 false nH)
theorem GQ:bT Tryz.prog oF:=(bT.none.add tw false)
theorem gO:type_of% (ai @w<|ai @jO<|@oF.eq_1):=⟨@w,@jO,@oF.eq_1⟩
theorem J6 (p0:(List Int)) (p1:Int) (r:(List Int)×Int) (hh:j5 p0 p1=some r):aS .clean tab oF FU Tryz.f162 none [.sl false false p0.length (ab (eI .i64) p0),.int .i64 p1]=some (.clean (.tup [.sl false false r.1.length (ab (eI .i64) r.1),.int .i64 r.2]),none):=by
 refine aw rfl Tryz.ntmps162 Tryz.results162 ?_
 unfold j5 at hh
 obtain⟨x1,hx1,hh⟩:=ae hh
 obtain⟨q2a,q2b,q2c,q2d,q2e⟩:=mk_one (eI .i64) hx1
 simp only[bU]at q2d
 try simp only[gO,seval,-Int.reduceToNat,q2a,q2b,q2c,q2d,q2e]
 obtain⟨o13,ho13,hh⟩:=ae hh
 refine aB (fun s t H e=>match s with|(s7a,s8a,l6a)=>∃v6a:Nat,t 0=.sl false false p0.length (ab (eI .i64) p0)∧t 1=.int .i64 p1∧t 6=.buf 6 v6a 1 0 (l6a).length∧t 7=.int .i64 s7a∧t 8=.int .i64 s8a∧H 6=some ⟨v6a,3,ab (eI .i64) l6a,false,true,false⟩) (fun o x t H e=>match o with|(s7ax,l6ax)=>x=.exit 0∧∃v6ax:Nat,t 6=.buf 6 v6ax 1 0 (l6ax).length∧t 7=.int .i64 s7ax∧H 6=some ⟨v6ax,3,ab (eI .i64) l6ax,false,true,false⟩) ho13 ?_ ?_ ?_
 ·refine⟨1,?_,?_,?_,?_,?_,?_⟩
  all_goals first|rfl|(simp only[gO,seval,-Int.reduceToNat,q2a,q2b,q2c,q2d,q2e]<;>rfl)
 ·rintro⟨s7a,s8a,l6a⟩ t H e ⟨v6a,Za⟩ c hh
  simp only[mO]at hh
  try simp only[gO,seval,-Int.reduceToNat,q2a,q2b,q2c,q2d,q2e,Za]
  refine sp an hh (fun _ hh =>?_) (fun _ hh =>?_)
  ·obtain⟨x15,hx15,hh⟩:=ae hh
   have q16:=Ay hx15
   obtain⟨x17,hx17,hh⟩:=ae hh
   have ax17:=bF (eI .i64) hx17
   simp only[bU]at ax17
   obtain⟨x18,hx18,hh⟩:=ae hh
   have q19:=qz hx18
   obtain⟨x20,hx20,hh⟩:=ae hh
   have ax20:=bF (eI .i64) hx20
   simp only[bU]at ax20
   have p21:=jH (eI .i64) (x':=x18) (fo:=0) (cs:=[.int .i64 x18]) hx20 rfl (Nat.le_of_ble_eq_true rfl)
   simp only[bU,Nat.add_zero]at p21
   have up21:=p21
   simp only[putCells,List.length_cons,List.length_nil,Nat.zero_add,Nat.reduceAdd]at up21
   obtain⟨x22,hx22,hh⟩:=ae hh
   have q23:=oR hx22
   cases hh
   try simp only[gO,seval,-Int.reduceToNat,q2a,q2b,q2c,q2d,q2e,Za,q16,ax17,q19,ax20,p21,up21,q23]
   refine iS ?_
   refine⟨v6a,?_,?_,?_,?_,?_,?_⟩
   all_goals first|rfl|(simp only[gO,seval,-Int.reduceToNat,q2a,q2b,q2c,q2d,q2e,Za,q16,ax17,q19,ax20,p21,up21,q23]<;>rfl)
  ·cases hh
   try simp only[gO,seval,-Int.reduceToNat,q2a,q2b,q2c,q2d,q2e,Za]
   refine ki ?_
   refine⟨rfl,⟨v6a,?_,?_,?_⟩⟩
   all_goals first|rfl|(simp only[gO,seval,-Int.reduceToNat,q2a,q2b,q2c,q2d,q2e,Za]<;>rfl)
 ·rintro x t H e hx
  rcases o13 with⟨s7ax,l6ax⟩
  dsimp only at hx hh
  obtain⟨rfl,⟨v6ax,Zax⟩⟩:=hx
  obtain⟨r24,hr24,hh⟩:=ae hh
  cases hh
  try simp only[gO,seval,-Int.reduceToNat,q2a,q2b,q2c,q2d,q2e,Zax,hr24]
theorem Hp:bN Tryz.prog 162 sh:=bN.of (mode := .clean) tok GQ mixed Tryz.func162 (by kernel_rfl) ⟨by kernel_rfl,by kernel_rfl⟩ (fun _=>Nat.le_of_ble_eq_true (by kernel_rfl)) (fun x r h=>J6 x.1 x.2 r h)
noncomputable def tK:=eB (dR (iG (eI .i64)) (dK (iG (eI .i64)))) (fun x:(List Int)×(List Int)=>mN x.1 x.2) (fun r:(List Int) =>.fresh 3 1 r.length (ab (eI .i64) r))
theorem nC (p0:(List Int)) (p1:(List Int)):tK none [.sl false false p0.length (ab (eI .i64) p0),.sl false false p1.length (ab (eI .i64) p1)]=(mN p0 p1).map fun r:(List Int)=>(.fresh 3 1 r.length (ab (eI .i64) r),none):=aJ _ _ _ (p0,p1)
noncomputable def tZ:Env:=(Am.ext aU 163 true pU)
theorem Mb:bT Tryz.prog tZ:=(bT.none.add DS true)
theorem eH:type_of% (ai @w<|@tZ.eq_1):=⟨@w,@tZ.eq_1⟩
theorem P6 (p0:(List Int)) (p1:(List Int)) (r:(List Int)) (hh:mN p0 p1=some r):aS (.fresh 3 1) tab tZ FU Tryz.f164 none [.sl false false p0.length (ab (eI .i64) p0),.sl false false p1.length (ab (eI .i64) p1)]=some (.fresh 3 1 r.length (ab (eI .i64) r),none):=by
 refine aw rfl Tryz.ntmps164 Tryz.results164 ?_
 unfold mN at hh
 obtain⟨x1,hx1,hh⟩:=ae hh
 obtain⟨q2a,q2b,q2c,q2d,q2e⟩:=mk_one (eI .i64) hx1
 simp only[bU]at q2d
 try simp only[eH,seval,-Int.reduceToNat,q2a,q2b,q2c,q2d,q2e]
 obtain⟨o20,ho20,hh⟩:=ae hh
 refine aB (fun s t H e=>match s with|(s20a,l5a)=>∃v5a:Nat,t 1=.sl false false p1.length (ab (eI .i64) p1)∧t 5=.buf 5 v5a 1 0 (l5a).length∧t 18=.sl false false p0.length (ab (eI .i64) p0)∧t 19=.int .i64 (p0.length:Int)∧t 20=.int .i64 s20a∧H 5=some ⟨v5a,3,ab (eI .i64) l5a,false,true,false⟩) (fun o x t H e=>match o with|l5ax=>x=.exit 0∧∃v5ax:Nat,t 5=.buf 5 v5ax 1 0 (l5ax).length∧H 5=some ⟨v5ax,3,ab (eI .i64) l5ax,false,true,false⟩) ho20 ?_ ?_ ?_
 ·refine⟨1,?_,?_,?_,?_,?_,?_⟩
  all_goals first|rfl|(simp only[eH,seval,-Int.reduceToNat,q2a,q2b,q2c,q2d,q2e]<;>rfl)
 ·rintro⟨s20a,l5a⟩ t H e ⟨v5a,Za⟩ c hh
  simp only[qv]at hh
  try simp only[eH,seval,-Int.reduceToNat,q2a,q2b,q2c,q2d,q2e,Za]
  refine sp an hh (fun _ hh =>?_) (fun _ hh =>?_)
  ·obtain⟨x22,hx22,hh⟩:=ae hh
   have ax22:=bF (eI .i64) hx22
   simp only[bU]at ax22
   try simp only[eH,seval,-Int.reduceToNat,q2a,q2b,q2c,q2d,q2e,Za,ax22]
   obtain⟨o29,ho29,hh⟩:=ae hh
   refine aB (fun s t H e=>match s with|(s8c,s27c,l5c)=>∃v5c:Nat,t 1=.sl false false p1.length (ab (eI .i64) p1)∧t 5=.buf 5 v5c 1 0 (l5c).length∧t 6=.int .i64 s20a∧t 7=.int .i64 x22∧t 8=.int .i64 s8c∧t 18=.sl false false p0.length (ab (eI .i64) p0)∧t 19=.int .i64 (p0.length:Int)∧t 20=.int .i64 s20a∧t 25=.sl false false p1.length (ab (eI .i64) p1)∧t 26=.int .i64 (p1.length:Int)∧t 27=.int .i64 s27c∧H 5=some ⟨v5c,3,ab (eI .i64) l5c,false,true,false⟩) (fun o x t H e=>match o with|(s8cx,l5cx)=>x=.exit 2∧∃v5cx:Nat,t 1=.sl false false p1.length (ab (eI .i64) p1)∧t 5=.buf 5 v5cx 1 0 (l5cx).length∧t 6=.int .i64 s20a∧t 8=.int .i64 s8cx∧t 18=.sl false false p0.length (ab (eI .i64) p0)∧t 19=.int .i64 (p0.length:Int)∧t 20=.int .i64 s20a∧H 5=some ⟨v5cx,3,ab (eI .i64) l5cx,false,true,false⟩) ho29 ?_ ?_ ?_
   ·refine⟨v5a,?_,?_,?_,?_,?_,?_,?_,?_,?_,?_,?_,?_⟩
    all_goals first|rfl|(simp only[eH,seval,-Int.reduceToNat,q2a,q2b,q2c,q2d,q2e,Za,ax22]<;>rfl)
   ·rintro⟨s8c,s27c,l5c⟩ t H e ⟨v5c,Zc⟩ c hh
    simp only[qw]at hh
    try simp only[eH,seval,-Int.reduceToNat,q2a,q2b,q2c,q2d,q2e,ax22,Zc]
    refine sp an hh (fun _ hh =>?_) (fun _ hh =>?_)
    ·obtain⟨x31,hx31,hh⟩:=ae hh
     have ax31:=bF (eI .i64) hx31
     simp only[bU]at ax31
     obtain⟨x32,hx32,hh⟩:=ae hh
     have ax32:=bF (eI .i64) hx32
     simp only[bU]at ax32
     obtain⟨x33,hx33,hh⟩:=ae hh
     have q34:=rp hx33
     have ax32:=bF (eI .i64) hx32
     simp only[bU]at ax32
     have p35:=jH (eI .i64) (x':=nN .and .i64 (IntKind.i64.wrap ((IntKind.i64.wrap (x32+(IntKind.i64.wrap (x22*x31))))+s8c)) 1048575) (fo:=0) (cs:=[.int .i64 (nN .and .i64 (IntKind.i64.wrap ((IntKind.i64.wrap (x32+(IntKind.i64.wrap (x22*x31))))+s8c)) 1048575)]) hx32 rfl (Nat.le_of_ble_eq_true rfl)
     simp only[bU,Nat.add_zero]at p35
     have up35:=p35
     simp only[putCells,List.length_cons,List.length_nil,Nat.zero_add,Nat.reduceAdd]at up35
     cases hh
     try simp only[eH,seval,-Int.reduceToNat,q2a,q2b,q2c,q2d,q2e,ax22,Zc,ax31,ax32,q34,ax32,p35,up35]
     refine iS ?_
     refine⟨v5c,?_,?_,?_,?_,?_,?_,?_,?_,?_,?_,?_,?_⟩
     all_goals first|rfl|(simp only[eH,seval,-Int.reduceToNat,q2a,q2b,q2c,q2d,q2e,ax22,Zc,ax31,ax32,q34,ax32,p35,up35]<;>rfl)
    ·cases hh
     try simp only[eH,seval,-Int.reduceToNat,q2a,q2b,q2c,q2d,q2e,ax22,Zc]
     refine ki ?_
     refine⟨rfl,⟨v5c,?_,?_,?_,?_,?_,?_,?_,?_⟩⟩
     all_goals first|rfl|(simp only[eH,seval,-Int.reduceToNat,q2a,q2b,q2c,q2d,q2e,ax22,Zc]<;>rfl)
   ·rintro x t H e hx
    rcases o29 with⟨s8cx,l5cx⟩
    dsimp only at hx hh
    obtain⟨rfl,⟨v5cx,Zcx⟩⟩:=hx
    obtain⟨x36,hx36,hh⟩:=ae hh
    have ax36:=bF (eI .i64) hx36
    simp only[bU]at ax36
    have ax36:=bF (eI .i64) hx36
    simp only[bU]at ax36
    have p37:=jH (eI .i64) (x':=IntKind.i64.wrap (x36+s8cx)) (fo:=0) (cs:=[.int .i64 (IntKind.i64.wrap (x36+s8cx))]) hx36 rfl (Nat.le_of_ble_eq_true rfl)
    simp only[bU,Nat.add_zero]at p37
    have up37:=p37
    simp only[putCells,List.length_cons,List.length_nil,Nat.zero_add,Nat.reduceAdd]at up37
    cases hh
    try simp only[eH,seval,-Int.reduceToNat,q2a,q2b,q2c,q2d,q2e,ax22,Zcx,ax36,ax36,p37,up37]
    refine iS ?_
    refine⟨v5cx,?_,?_,?_,?_,?_,?_⟩
    all_goals first|rfl|(simp only[eH,seval,-Int.reduceToNat,q2a,q2b,q2c,q2d,q2e,ax22,Zcx,ax36,ax36,p37,up37]<;>rfl)
  ·cases hh
   try simp only[eH,seval,-Int.reduceToNat,q2a,q2b,q2c,q2d,q2e,Za]
   refine ki ?_
   refine⟨rfl,⟨v5a,?_,?_⟩⟩
   all_goals first|rfl|(simp only[eH,seval,-Int.reduceToNat,q2a,q2b,q2c,q2d,q2e,Za]<;>rfl)
 ·rintro x t H e hx
  obtain⟨l5ax,rfl⟩:∃z,z=o20:=⟨_,rfl⟩
  dsimp only at hx hh
  obtain⟨rfl,⟨v5ax,Zax⟩⟩:=hx
  have i38:=HF [] [] l5ax
  try simp only[List.nil_append,List.append_nil,List.length_nil,aM,List.length_set,bU]at i38
  obtain⟨r39,hr39,hh⟩:=ae hh
  cases hh
  try simp only[eH,seval,-Int.reduceToNat,q2a,q2b,q2c,q2d,q2e,Zax,i38,hr39]
theorem Cr:bN Tryz.prog 164 tK:=bN.of (mode:=(.fresh 3 1)) tok Mb mixed Tryz.func164 (by kernel_rfl) ⟨by kernel_rfl,by kernel_rfl⟩ (fun _=>Nat.le_of_ble_eq_true (by kernel_rfl)) (fun x r h=>P6 x.1 x.2 r h)
noncomputable def nG:=QQ 3 (eI .i64) (dR (iG (eI .i64)) (dK (aI .i64))) (fun (l:(List Int)) (x:(List Int)×Int)=>eW l x.1 x.2) (fun r:Int =>.clean (.int .i64 r))
theorem Cy (pre post:List D) (p0:(List Int)) (p1:(List Int)) (p2:Int):nG (some (.buf 0 0 1 pre.length p0.length,⟨0,3,pre++(ab (eI .i64) p0++post),false,true,false⟩)) [.sl false false p1.length (ab (eI .i64) p1),.int .i64 p2]=(eW p0 p1 p2).map fun r=>(.clean (.int .i64 r.2),some ⟨0,3,pre++(ab (eI .i64) r.1++post),false,true,false⟩):=Cm _ _ _ _ _ pre post p0 (p1,p2)
theorem Cf (pre post:List D) (p0:(List Int)) (p1:(List Int)) (p2:Int) (r:(List Int)×(Int)) (hh:eW p0 p1 p2=some r):aS .clean tab aU FU Tryz.f165 (some (.buf 0 0 1 pre.length p0.length,⟨0,3,pre++(ab (eI .i64) p0++post),false,true,false⟩)) [.sl false false p1.length (ab (eI .i64) p1),.int .i64 p2]=some (.clean (.int .i64 r.2),some ⟨0,3,pre++(ab (eI .i64) r.1++post),false,true,false⟩):=by
 refine oo rfl Tryz.ntmps165 Tryz.results165 ?_
 unfold eW at hh
 obtain⟨rw,hrw,hh⟩:=ae hh
 split at hh
 rotate_left
 ·cases hh
 cases hh
 rename_i hlen
 replace hh:=hrw
 unfold nM at hh
 try simp only[w,seval,-Int.reduceToNat]
 obtain⟨o9,ho9,hh⟩:=ae hh
 refine aB (fun s t H e=>match s with|(s7a,s14a,l0a)=>t 0=.buf 0 0 1 pre.length (l0a).length∧t 1=.sl false false p1.length (ab (eI .i64) p1)∧t 2=.int .i64 p2∧t 7=.int .i64 s7a∧t 13=.int .i64 ((p0).length:Int)∧t 14=.int .i64 s14a∧H 0=some ⟨0,3,pre++(ab (eI .i64) l0a++post),false,true,false⟩) (fun o x t H e=>match o with|(s7ax,l0ax)=>x=.exit 0∧t 0=.buf 0 0 1 pre.length (l0ax).length∧t 1=.sl false false p1.length (ab (eI .i64) p1)∧t 2=.int .i64 p2∧t 7=.int .i64 s7ax∧H 0=some ⟨0,3,pre++(ab (eI .i64) l0ax++post),false,true,false⟩) ho9 ?_ ?_ ?_
 ·refine⟨?_,?_,?_,?_,?_,?_,?_⟩
  all_goals first|rfl|(simp only[w,seval,-Int.reduceToNat]<;>rfl)
 ·rintro⟨s7a,s14a,l0a⟩ t H e Za c hh
  simp only[jA]at hh
  try simp only[w,seval,-Int.reduceToNat,Za]
  refine sp an hh (fun _ hh =>?_) (fun _ hh =>?_)
  ·obtain⟨x11,hx11,hh⟩:=ae hh
   have ax11:=s7 (pre:=pre) (post:=post) (eI .i64) hx11
   simp only[bU]at ax11
   try simp only[w,seval,-Int.reduceToNat,Za,ax11]
   obtain⟨o12,ho12,hh⟩:=ae hh
   refine kX 0 (fun s t H e=>match s with|s9j3=>t 0=.buf 0 0 1 pre.length (l0a).length∧t 1=.sl false false p1.length (ab (eI .i64) p1)∧t 2=.int .i64 p2∧t 8=.int .i64 s14a∧t 9=.int .i64 s9j3∧t 13=.int .i64 ((p0).length:Int)∧t 14=.int .i64 s14a∧H 0=some ⟨0,3,pre++(ab (eI .i64) l0a++post),false,true,false⟩) (fun s=>s=o12) ?_ ?_
   ·rintro s9j3 t H e Zj3 rfl
    try dsimp only at hh
    have ax11:=s7 (pre:=pre) (post:=post) (eI .i64) hx11
    simp only[bU]at ax11
    have p13:=xa (pre:=pre) (post:=post) (eI .i64) (y':=nN .and .i64 s9j3 1048575) hx11
    simp only[bU]at p13
    have up13:=p13
    simp only[putCells,List.length_cons,List.length_nil,Nat.zero_add,Nat.reduceAdd]at up13
    obtain⟨x14,hx14,hh⟩:=ae hh
    have q15:=rp hx14
    cases hh
    try simp only[w,seval,-Int.reduceToNat,ax11,Zj3,ax11,p13,up13,q15]
    refine iS ?_
    refine⟨?_,?_,?_,?_,?_,?_,?_⟩
    all_goals first|rfl|(simp only[w,seval,-Int.reduceToNat,ax11,Zj3,ax11,p13,up13,q15]<;>rfl)
   ·clear hh
    have hh:=ho12
    try simp only[w,seval,-Int.reduceToNat,Za,ax11]
    refine sp an hh (fun _ hh =>?_) (fun _ hh =>?_)
    ·obtain⟨x17,hx17,hh⟩:=ae hh
     have ax17:=bF (eI .i64) hx17
     simp only[bU]at ax17
     cases hh
     try simp only[w,seval,-Int.reduceToNat,Za,ax11,ax17]
     rw[al]
     refine⟨_,rfl,?_⟩
     refine⟨?_,?_,?_,?_,?_,?_,?_,?_⟩
     all_goals first|rfl|(simp only[w,seval,-Int.reduceToNat,Za,ax11,ax17]<;>rfl)
    ·cases hh
     try simp only[w,seval,-Int.reduceToNat,Za,ax11]
     rw[al]
     refine⟨_,rfl,?_⟩
     refine⟨?_,?_,?_,?_,?_,?_,?_,?_⟩
     all_goals first|rfl|(simp only[w,seval,-Int.reduceToNat,Za,ax11]<;>rfl)
  ·cases hh
   try simp only[w,seval,-Int.reduceToNat,Za]
   refine ki ?_
   refine⟨rfl,⟨?_,?_,?_,?_,?_⟩⟩
   all_goals first|rfl|(simp only[w,seval,-Int.reduceToNat,Za]<;>rfl)
 ·rintro x t H e hx
  rcases o9 with⟨s7ax,l0ax⟩
  dsimp only at hx hh
  obtain⟨rfl,Zax⟩:=hx
  try simp only[w,seval,-Int.reduceToNat,Zax]
  refine sp an hh (fun _ hh =>?_) (fun _ hh =>?_)
  ·cases hh
   try simp only[w,seval,-Int.reduceToNat,Zax]
  ·try simp only[w,seval,-Int.reduceToNat,Zax]
   obtain⟨o27,ho27,hh⟩:=ae hh
   refine aB (fun s t H e=>match s with|(s10d,s49d,l0d)=>t 0=.buf 0 0 1 pre.length (l0d).length∧t 1=.sl false false p1.length (ab (eI .i64) p1)∧t 2=.int .i64 p2∧t 10=.int .i64 s10d∧t 48=.int .i64 ((l0ax).length:Int)∧t 49=.int .i64 s49d∧H 0=some ⟨0,3,pre++(ab (eI .i64) l0d++post),false,true,false⟩) (fun o x t H e=>match o with|l0dx=>x=.exit 2∧t 0=.buf 0 0 1 pre.length (l0dx).length∧t 2=.int .i64 p2∧H 0=some ⟨0,3,pre++(ab (eI .i64) l0dx++post),false,true,false⟩) ho27 ?_ ?_ ?_
   ·refine⟨?_,?_,?_,?_,?_,?_,?_⟩
    all_goals first|rfl|(simp only[w,seval,-Int.reduceToNat,Zax]<;>rfl)
   ·rintro⟨s10d,s49d,l0d⟩ t H e Zd c hh
    simp only[jB]at hh
    try simp only[w,seval,-Int.reduceToNat,Zd]
    refine sp an hh (fun _ hh =>?_) (fun _ hh =>?_)
    ·obtain⟨x29,hx29,hh⟩:=ae hh
     have ax29:=s7 (pre:=pre) (post:=post) (eI .i64) hx29
     simp only[bU]at ax29
     try simp only[w,seval,-Int.reduceToNat,Zd,ax29]
     obtain⟨o30,ho30,hh⟩:=ae hh
     refine kX 0 (fun s t H e=>match s with|s10j6=>t 0=.buf 0 0 1 pre.length (l0d).length∧t 1=.sl false false p1.length (ab (eI .i64) p1)∧t 2=.int .i64 p2∧t 10=.int .i64 s10j6∧t 11=.int .i64 s49d∧t 48=.int .i64 ((l0ax).length:Int)∧t 49=.int .i64 s49d∧H 0=some ⟨0,3,pre++(ab (eI .i64) l0d++post),false,true,false⟩) (fun s=>s=o30) ?_ ?_
     ·rintro s10j6 t H e Zj6 rfl
      try dsimp only at hh
      have ax29:=s7 (pre:=pre) (post:=post) (eI .i64) hx29
      simp only[bU]at ax29
      have p31:=xa (pre:=pre) (post:=post) (eI .i64) (y':=nN .and .i64 s10j6 1048575) hx29
      simp only[bU]at p31
      have up31:=p31
      simp only[putCells,List.length_cons,List.length_nil,Nat.zero_add,Nat.reduceAdd]at up31
      obtain⟨x32,hx32,hh⟩:=ae hh
      have q33:=rp hx32
      cases hh
      try simp only[w,seval,-Int.reduceToNat,ax29,Zj6,ax29,p31,up31,q33]
      refine iS ?_
      refine⟨?_,?_,?_,?_,?_,?_,?_⟩
      all_goals first|rfl|(simp only[w,seval,-Int.reduceToNat,ax29,Zj6,ax29,p31,up31,q33]<;>rfl)
     ·clear hh
      have hh:=ho30
      try simp only[w,seval,-Int.reduceToNat,Zd,ax29]
      refine sp an hh (fun _ hh =>?_) (fun _ hh =>?_)
      ·obtain⟨x35,hx35,hh⟩:=ae hh
       have ax35:=bF (eI .i64) hx35
       simp only[bU]at ax35
       cases hh
       try simp only[w,seval,-Int.reduceToNat,Zd,ax29,ax35]
       rw[al]
       refine⟨_,rfl,?_⟩
       refine⟨?_,?_,?_,?_,?_,?_,?_,?_⟩
       all_goals first|rfl|(simp only[w,seval,-Int.reduceToNat,Zd,ax29,ax35]<;>rfl)
      ·cases hh
       try simp only[w,seval,-Int.reduceToNat,Zd,ax29]
       rw[al]
       refine⟨_,rfl,?_⟩
       refine⟨?_,?_,?_,?_,?_,?_,?_,?_⟩
       all_goals first|rfl|(simp only[w,seval,-Int.reduceToNat,Zd,ax29]<;>rfl)
    ·cases hh
     try simp only[w,seval,-Int.reduceToNat,Zd]
     refine ki ?_
     refine⟨rfl,⟨?_,?_,?_⟩⟩
     all_goals first|rfl|(simp only[w,seval,-Int.reduceToNat,Zd]<;>rfl)
   ·rintro x t H e hx
    obtain⟨l0dx,rfl⟩:∃z,z=o27:=⟨_,rfl⟩
    dsimp only at hx hh
    obtain⟨rfl,Zdx⟩:=hx
    cases hh
    try simp only[w,seval,-Int.reduceToNat,Zdx]
theorem Ac:bN Tryz.prog 165 nG:=bN.OA (mode := .clean) tok bT.none mixed Tryz.func165 (by kernel_rfl) ⟨by kernel_rfl,by kernel_rfl⟩ (fun _=>Nat.le_of_ble_eq_true (by kernel_rfl)) (fun pre post l x l' r h=>Cf pre post l x.1 x.2 (l',r) h)
noncomputable def xE:=eB (dR (iG (eI .i64)) (dK (iG (eI .i64)))) (fun x:(List Int)×(List Int)=>qp x.1 x.2) (fun r:(List Int)×(List Int) =>.clean (.tup [.sl false false r.1.length (ab (eI .i64) r.1),.sl false false r.2.length (ab (eI .i64) r.2)]))
theorem FM (p0:(List Int)) (p1:(List Int)):xE none [.sl false false p0.length (ab (eI .i64) p0),.sl false false p1.length (ab (eI .i64) p1)]=(qp p0 p1).map fun r:(List Int)×(List Int)=>(.clean (.tup [.sl false false r.1.length (ab (eI .i64) r.1),.sl false false r.2.length (ab (eI .i64) r.2)]),none):=aJ _ _ _ (p0,p1)
end Go.Proofs.YtpkahnkoecbndaaGreatDoor.Am
