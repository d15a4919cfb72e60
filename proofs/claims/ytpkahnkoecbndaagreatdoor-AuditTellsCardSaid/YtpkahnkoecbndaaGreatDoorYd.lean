/- Part of a proof, made small by a program (wip/mini.py). -/
import Derived.Test.YtpkahnkoecbndaaGreatDoorYc
namespace Go.Proofs.YtpkahnkoecbndaaGreatDoor.Am
open Go.RowKit Go.Proofs.YtpkahnkoecbndaaGreatDoor.P Go.Shelf
set_option linter.unusedSimpArgs false
set_option linter.unusedVariables false
set_option maxHeartbeats 4000000 in
set_option maxRecDepth 100000 in
theorem Z0 (b o c:Nat) (l:List Int) (w:World) (hb:b<w.heap.size) (hc:∀j,j<l.length→w.cell? ⟨b,o+j,none⟩=some (.int .i64 (l.getD j 0))) (hall:∀x∈l,-9223372036854775808≤x∧x≤9223372036854775807) (hreach:l.length*8≤140737488351232) (hsize:(mU l).length≤140737488355328)
  (ht:∀b,tr=some b→∃ty fr,w.heap[b]? = some (.cells nF ty fr)) (htl:∀b,tr=some b→b<w.heap.size) :
  Calls Tryz.prog 93 #[.slice (some ⟨b,o,none⟩) l.length c,.func (.func 94) #[] #[]] w fun e w'=>e=.returned (.string ⟨(mU l).toArray⟩)∧Below w.heap.size w w':=by
 have htk:∀w',Below w.heap.size w w'→∀b,tr=some b→∃ty fr,w'.heap[b]? = some (.cells nF ty fr):=fun w' hbw b hb=>by
  obtain⟨ty,fr,h⟩:=ht b hb
  exact⟨ty,fr,(hbw.block b (htl b hb)).trans h⟩
 have hn0 : -9223372036854775808≤(l.length:Int):=by omega
 have hn1:(l.length:Int)≤9223372036854775807:=by omega
 have hB0:Below w.heap.size w (w.alloc (.cells #[.pointer none,.slice none 0 0] 150)):=(Below.refl _ w).alloc (Nat.le_refl _) _
 have hsz:=xI l.length hn0 hn1
 have e1:D6 l.length++⟨#[91]⟩=⟨(Lib.itoa l.length++[91]).toArray⟩:=zY (Lib.itoa l.length) [91]
 have hnl:(mU l).length=(Lib.itoa l.length).length+1+(eY l).length+1:=by simp[mU];omega
 go_enter Tryz.func93,Tryz.ntmps93
 have hI0:Lib.IsBuilder 150 5 w.heap.size w.heap.size (Lib.byteCells []) (w.alloc (.cells #[.pointer none,.slice none 0 0] 150)):=Re w
 go_wp2_with (first
  | (go_at_call 121;refine (U5 l.length _ hn0 hn1 (htk _ hB0)).mono ?_;rintro e w1 ⟨rfl,hb1⟩;have hI1:=Hy hI0 hb1;have hz1:w.heap.size≤w1.heap.size:=Nat.le_trans hB0.size hb1.size)
  | (go_at_call 120;refine (Qg w.heap.size w.heap.size [] (Lib.itoa l.length++[91]) _ hI1 (by simp only[List.length_nil,List.length_append,List.length_cons];omega) hz1).mono ?_;rintro e w2 ⟨v2,rfl,hB2,hb2⟩))
 have hb20:Below w.heap.size w w2:=(hB0.trans (hb1.mono hB0.size)).trans hb2
 clear hI1 hI0 hB0 hb1 hb2
 go_loopw [15] (fun i wr=>∃k:Nat,k≤l.length∧i=.int .i64 k∧Lib.BuilderAt 150 5 w.heap.size w.heap.size (.pointer (some ⟨w.heap.size,0,none⟩)) (Lib.byteCells ((Lib.itoa l.length++[91])++eY (l.take k))) wr∧Below w.heap.size w wr)
  (fun i _=>l.length-(intOf i).toNat)
 case atStart=>exact⟨0,Nat.zero_le _,rfl,by simpa [eY] using hB2,hb20⟩
 case round =>
  obtain⟨k,hk,rfl,hBk,hbk⟩:=hrel
  have hcx:k<l.length→wr.cell? ⟨b,o+k,none⟩=some (.int .i64 (l.getD k 0)):=fun h=>(hbk.cell (p:=⟨b,o+k,none⟩) hb).trans (hc k h)
  by_cases hlt:k<l.length
  ·have hcx':=hcx hlt
   have hx:=hall (l.getD k 0) (by rw[List.getD_eq_getElem?_getD,List.getElem?_eq_getElem hlt];exact List.getElem_mem hlt)
   have hnk:=Xl l (k+1)
   rw[It l hlt,List.length_append]at hnk
   have hnn:=It l hlt
   generalize l.getD k 0=x at *
   go_wp2_with (first
    | (go_at_call 94;refine (XL x _ hx.1 hx.2 (htk _ hbk)).mono ?_;rintro e w3 ⟨rfl,hb3⟩;have hI3:=qS hBk hb3;have hz3:w.heap.size≤w3.heap.size:=Nat.le_trans hbk.size hb3.size)
    | (go_at_call 120;refine (Qg w.heap.size w.heap.size ((Lib.itoa l.length++[91])++eY (l.take k)) (Lib.itoa x++[59]) _ (.inr hI3) (by simp only[List.length_append,List.length_cons,List.length_nil]at *;omega) hz3).mono ?_;rintro e w4 ⟨v4,rfl,hB4,hb4⟩))
   go_roundw
   case rel=>exact⟨k+1,by omega,by go_num,by rw[hnn,← List.append_assoc];exact hB4,(hbk.trans (hb3.mono hbk.size)).trans hb4⟩
   case measure=>simp[intOf];omega
  ·obtain rfl:k=l.length:=by omega
   have e3:(⟨((Lib.itoa l.length++[91])++eY l).toArray⟩:ByteArray)++⟨#[93]⟩=⟨(mU l).toArray⟩:=by
    rw[show (⟨#[93]⟩:ByteArray)=⟨([93]:List UInt8).toArray⟩ from rfl,zY]
    simp[mU]
   have hss:(⟨((Lib.itoa l.length++[91])++eY l).toArray⟩:ByteArray).size+1≤9223372036854775807:=by
    show ((Lib.itoa l.length++[91])++eY l).toArray.size+1≤_
    rw[List.size_toArray]
    simp only[List.length_append,List.length_cons,List.length_nil]
    omega
   rw[List.take_length]at hBk
   have hstr:=RW w.heap.size w.heap.size _ wr (.inr hBk) hbk.size
   generalize (⟨((Lib.itoa l.length++[91])++eY l).toArray⟩:ByteArray)=S at *
   go_wp2_with (go_at_call 122;refine hstr.mono ?_;rintro e w5 ⟨rfl,hb5⟩)
   go_ret
   first|exact⟨rfl,hbk.trans hb5⟩|exact⟨by rw[← e3],hbk.trans hb5⟩
set_option maxHeartbeats 1000000 in
set_option maxRecDepth 100000 in
theorem Z1 (A:Option Addr) (c:Nat) (w:World) (ht:∀b,tr=some b→∃ty fr,w.heap[b]? = some (.cells nF ty fr)) (htl:∀b,tr=some b→b<w.heap.size) :
  Calls Tryz.prog 93 #[.slice A 0 c,.func (.func 94) #[] #[]] w fun e w'=>e=.returned (.string ⟨(mU []).toArray⟩)∧Below w.heap.size w w':=by
 have htk:∀w',Below w.heap.size w w'→∀b,tr=some b→∃ty fr,w'.heap[b]? = some (.cells nF ty fr):=fun w' hbw b hb=>by
  obtain⟨ty,fr,h⟩:=ht b hb
  exact⟨ty,fr,(hbw.block b (htl b hb)).trans h⟩
 have hB0:Below w.heap.size w (w.alloc (.cells #[.pointer none,.slice none 0 0] 150)):=(Below.refl _ w).alloc (Nat.le_refl _) _
 have hsz:=xI 0 (by decide) (by decide)
 have hll:=Lib.itoa_length_le 0 (by decide) (by decide)
 have e1:D6 0++⟨#[91]⟩=⟨(Lib.itoa 0++[91]).toArray⟩:=zY (Lib.itoa 0) [91]
 go_enter Tryz.func93,Tryz.ntmps93
 have hI0:Lib.IsBuilder 150 5 w.heap.size w.heap.size (Lib.byteCells []) (w.alloc (.cells #[.pointer none,.slice none 0 0] 150)):=Re w
 go_wp2_with (first
  | (go_at_call 121;refine (U5 0 _ (by decide) (by decide) (htk _ hB0)).mono ?_;rintro e w1 ⟨rfl,hb1⟩;have hI1:=Hy hI0 hb1;have hz1:w.heap.size≤w1.heap.size:=Nat.le_trans hB0.size hb1.size)
  | (go_at_call 120;refine (Qg w.heap.size w.heap.size [] (Lib.itoa 0++[91]) _ hI1 (by simp only[List.length_nil,List.length_append,List.length_cons];omega) hz1).mono ?_;rintro e w2 ⟨v2,rfl,hB2,hb2⟩))
 have hb20:Below w.heap.size w w2:=(hB0.trans (hb1.mono hB0.size)).trans hb2
 clear hI1 hI0 hB0 hb1 hb2
 go_loopw [15] (fun i wr=>i=.int .i64 0∧wr=w2) (fun i _=>0)
 case atStart=>exact⟨rfl,rfl⟩
 case round =>
  obtain⟨rfl,rfl⟩:=hrel
  have e3:(⟨(Lib.itoa 0++[91]).toArray⟩:ByteArray)++⟨#[93]⟩=⟨(mU []).toArray⟩:=by
   rw[show (⟨#[93]⟩:ByteArray)=⟨([93]:List UInt8).toArray⟩ from rfl,zY]
   simp[mU,eY]
  have hss:(⟨(Lib.itoa 0++[91]).toArray⟩:ByteArray).size+1≤9223372036854775807:=by
   show (Lib.itoa 0++[91]).toArray.size+1≤_
   rw[List.size_toArray]
   simp only[List.length_append,List.length_cons,List.length_nil]
   omega
  have hstr:=RW w.heap.size w.heap.size _ wr (.inr hB2) hb20.size
  rw[List.nil_append]at hstr
  generalize (⟨(Lib.itoa 0++[91]).toArray⟩:ByteArray)=S at *
  go_wp2_with (go_at_call 122;refine hstr.mono ?_;rintro e w5 ⟨rfl,hb5⟩)
  go_ret
  first|exact⟨rfl,hb20.trans hb5⟩|exact⟨by rw[← e3],hb20.trans hb5⟩
theorem Xm:bE Tryz.prog 53 (dI (dn (eZ (eI .i64))) Rq (fun r =>.clean (.str r))) :=
 RU Tryz.func53 ⟨by kernel_rfl,by kernel_rfl⟩ fun l r hr w M u hu ht=>by
  unfold Rq at hr
  split at hr
  rotate_left
  ·cases hr
  rename_i hc
  cases hr
  have hu':RP w M (.sl false false l.length (ab (eI .i64) l)) u:=hu
  obtain⟨A,c,rfl,-,-,-,k4⟩:=ID hu'
  have hcall:Calls Tryz.prog 93 #[.slice A l.length c,.func (.func 94) #[] #[]] w fun e w'=>e=.returned (.string ⟨(mU l).toArray⟩)∧Below w.heap.size w w':=by
   by_cases hl:l=[]
   ·subst hl
    exact Z1 A c w (fun b hb=>(ht b hb).is) (fun b hb=>(ht b hb).lt)
   ·obtain⟨b,o,rfl,hb,hM,hcc⟩:=k4 hl
    exact Z0 b o c l w hb hcc hc.1 hc.2.1 hc.2.2 (fun b hb=>(ht b hb).is) (fun b hb=>(ht b hb).lt)
  generalize (⟨(mU l).toArray⟩:ByteArray)=S at *
  go_enter Tryz.func53,Tryz.ntmps53
  go_wp2_with (go_at_call 93;refine hcall.mono ?_;rintro e w1 ⟨rfl,hb1⟩)
  go_ret
  exact⟨rfl,hb1⟩
theorem P4 (u:Nat):(-(u:Int)).tmod 10 = -((u % 10:Nat):Int):=by
 rw[Int.neg_tmod];rfl
theorem P0 (u:Nat):(-(u:Int)).tdiv 10 = -((u / 10:Nat):Int):=by
 rw[Int.neg_tdiv];rfl
theorem Tn {P:Program} (w:World) {src dst e:Nat} (hs:P.underlying src=some (.slice e)) (hd:P.underlying dst=some .string) (he:P.underlying e=some (.int .u8)) (a:Addr) (c:Nat) (n:Int) (hc:w.cell? (a.add 0)=some (.int .u8 n)) :
  (convert src dst (.slice (some a) 1 c)).run P w=.ok (.string ⟨#[UInt8.ofNat n.toNat]⟩) w:=by
 have hl:=run_loadCells (P:=P) (w:=w) a 1 (fun _=>Value.int .u8 n) (fun j hj=>by
  obtain rfl:j=0:=by omega
  exact hc)
 simp[convert,run_underlying hs,run_underlying hd,run_underlying he,Conv.bytesToString,hl]
 rfl
set_option maxHeartbeats 1000000 in
set_option maxRecDepth 100000 in
theorem W4:∀(u:Nat),u≤9223372036854775808→∀w:World,Calls Tryz.prog 158 #[.int .i64 (-(u:Int))] w fun e w'=>e=.returned (.string ⟨(Lib.decDigits u).toArray⟩)∧Below w.heap.size w w':=by
 intro u
 induction u using Nat.strongRecOn with
 | _ u ih =>
  intro hu w
  have h1:=P4 u
  have h2:=P0 u
  have hm:u % 10<10:=Nat.mod_lt _ (by omega)
  go_enter Tryz.func158,Tryz.ntmps158
  go_wp2
  have hc0:(w.alloc (.cells #[.int .u8 (48+(u:Int) % 10)] 5)).cell? ((⟨w.heap.size,0,none⟩:Addr).add 0)=some (.int .u8 (48+(u:Int) % 10)):=by
   rw[Addr.add_lit];exact (bH (heap_alloc_new w _) (j:=0) (by simp)).trans rfl
  rw[Tn _ Tryz.underlying148 Tryz.underlying9 Tryz.underlying5 _ _ _ hc0]
  have hb0:Below w.heap.size w (w.alloc (.cells #[.int .u8 (48+(u:Int) % 10)] 5)):=(Below.refl _ w).alloc (Nat.le_refl _) _
  have hch:UInt8.ofNat (48+(u:Int) % 10).toNat=UInt8.ofNat (48+u % 10):=by first|(congr 1;done)|(congr 1;omega)
  rw[hch]
  have hd1:u<10→Lib.decDigits u=[UInt8.ofNat (48+u % 10)]:=fun hlt=>by rw[Lib.decDigits_one hlt,Nat.mod_eq_of_lt hlt]
  have hd2:¬u<10→Lib.decDigits u=Lib.decDigits (u / 10)++[UInt8.ofNat (48+u % 10)]:=fun hlt=>by rw[Lib.decDigits,dif_neg hlt]
  clear hch
  generalize UInt8.ofNat (48+u % 10)=q at *
  simp only[Result.andThen]
  rw[Oper.upon_value]
  by_cases hlt:u<10
  ·have hd:=hd1 hlt
   go_wp2
   go_ret
   exact⟨by rw[hd];rfl,hb0⟩
  ·have hd:=hd2 hlt
   have hrec:=ih (u / 10) (by omega) (by omega)
   have e2:(⟨(Lib.decDigits (u / 10)).toArray⟩:ByteArray)++⟨#[q]⟩=⟨(Lib.decDigits u).toArray⟩:=by rw[hd];exact zY _ [_]
   have hss:(⟨(Lib.decDigits (u / 10)).toArray⟩:ByteArray).size+1≤9223372036854775807:=by
    show (Lib.decDigits (u / 10)).toArray.size+1≤_
    rw[List.size_toArray,Lib.decDigits_length]
    have:=Lib.nDigits_le20 (u / 10) (by omega)
    omega
   clear hd hd1 hd2
   generalize (⟨(Lib.decDigits (u / 10)).toArray⟩:ByteArray)=S at *
   go_wp2_with (go_at_call 158;refine (hrec _).mono ?_;rintro e w1 ⟨rfl,hb1⟩)
   go_ret
   exact⟨by first|rfl|(rw[← e2];rfl),hb0.trans (hb1.mono hb0.size)⟩
theorem Sr:bE Tryz.prog 158 (dI (dn (aI .i64)) yq (fun r =>.clean (.str r))) :=
 RU Tryz.func158 ⟨by kernel_rfl,by kernel_rfl⟩ fun n r hr w M u hu ht=>by
  unfold yq at hr
  split at hr
  rotate_left
  ·cases hr
  rename_i hc
  cases hr
  rw[Oc hu]
  have hn:n = -((n.natAbs:Nat):Int):=by omega
  have:=W4 n.natAbs (by omega) w
  rw[← hn]at this
  exact this
end Go.Proofs.YtpkahnkoecbndaaGreatDoor.Am
namespace Go.Proofs.YtpkahnkoecbndaaGreatDoor.Am
open Go.RowKit Go.Proofs.YtpkahnkoecbndaaGreatDoor.P
set_option linter.unusedSimpArgs false
set_option linter.unusedVariables false
set_option linter.unusedSectionVars false
noncomputable def rn {α β:Type} (E:jU α) (A:nx β) (F:List α→β→Option α):List D→List D→Option (List D):=fun ds us =>
 open Classical in if h:∃p:List α×β,ab E p.1=ds∧A.ds p.2=us then (F (Classical.choose h).1 (Classical.choose h).2).map E.cells else none
theorem UU {α β:Type} (E:jU α) (A:nx β) (F:List α→β→Option α) (l:List α) (b:β):rn E A F (ab E l) (A.ds b)=(F l b).map E.cells:=by
 have h:∃p:List α×β,ab E p.1=ab E l∧A.ds p.2=A.ds b:=⟨(l,b),rfl,rfl⟩
 simp only[rn]
 rw[dif_pos h,uJ E _ _ (Classical.choose_spec h).1,A.inj _ _ (Classical.choose_spec h).2]
theorem sG {α β:Type} {E:jU α} {A:nx β} {F:List α→β→Option α} {ds us cs:List D} (h:rn E A F ds us=some cs):∃l b x,ds=ab E l∧us=A.ds b∧F l b=some x∧cs=E.cells x:=by
 unfold rn at h
 split at h
 ·rename_i he
  obtain⟨h1,h2⟩:=Classical.choose_spec he
  rw[Option.map_eq_some_iff]at h
  obtain⟨x,h3,h4⟩:=h
  exact⟨_,_,x,h1.symm,h2.symm,h3,h4.symm⟩
 ·cases h
theorem LQ {α β:Type} (E:jU α) {A:nx β} {F:List α→β→Option α} {B:Nat} {l z:List α} {b:β} (h:((F l b).bind fun x=>ik B l [x])=some z) :
  ∃cs,rn E A F (ab E l) (A.ds b)=some cs∧ab E l++cs=ab E z∧l.length+1=z.length∧z.length*B≤140737488355328:=by
 obtain⟨x,h1,h2⟩:=ae h
 obtain⟨q1,q2,q3,q4⟩:=fa E h2
 exact⟨E.cells x,by rw[UU,h1];rfl,q2,q1,q4⟩
section
variable {P:Program} {w:World}
theorem IF (L:Nat→Prop) (w:World) (o:Obj):cB L w (w.alloc o):=⟨rfl,rfl,rfl,by simp,fun k hk _=>heap_alloc_old w o hk⟩
theorem Fm {L:Nat→Prop} {g:Nat} (hg:L g) (cs:Array Value):cB L w (w.setRow g cs):=⟨rfl,rfl,rfl,by simp[World.setRow],fun k _ hk=>by
 simp only[World.setRow,Array.getElem?_modify]
 rw[if_neg (fun h:g=k=>hk (h ▸ hg))]⟩
theorem Gd (t ty el:Nat) {φ:Ty} (hd:P.underlying t=some (.slice el)) (hφ:dF P el φ) (hpos:0<φ.size) (hz0:φ.zero.length=φ.size) (hby:0<φ.bytes) {go:Option (Nat×Nat)} {u:Value} {n:Nat} {cs:List Value} (hs:zV w el φ.size go u n cs) (hcs:cs.length=n*φ.size)
  (b:Addr) (c:Nat) (us:List Value) (hul:us.length=φ.size) (hus:∀j u,us[j]? = some u→w.cell? (b.add j)=some u) (h1:∀u∈us,u.oneCell'=true) (hb:(n+1)*φ.bytes≤140737488355328) :
  ∃(g:Nat×Nat) (k:Nat) (arr:Array Value) (w':World),(Builtin.append_ #[t,t] ty #[u,.slice (some b) 1 c]).run P w=.ok (.slice (some ⟨g.1,g.2,none⟩) (n+1) k) w'∧cB (nw go) w w'∧(w.heap.size≤g.1∨nw go g.1)∧w'.heap[g.1]? = some (.cells arr el (0,0)) ∧
   n+1≤k∧k≤maxLen∧k*φ.size+g.2=arr.size∧∀(j:Nat) x,(cs++us)[j]? = some x→arr[g.2+j]? = some x:=by
 have h63:n+1≤maxLen:=by
  have:=Nat.le_mul_of_pos_right (n+1) hby
  unfold maxLen
  omega
 have hul1:us.length=1*φ.size:=by omega
 have new:∀(A:Option Addr) (cap:Nat),u=.slice A n cap→cap<n+1→(A=none→n=0∧cap=0)→(∀ad,A=some ad→∀j u,cs[j]? = some u→w.cell? (ad.add j)=some u) →
   ∃(g:Nat×Nat) (k:Nat) (arr:Array Value) (w':World),(Builtin.append_ #[t,t] ty #[u,.slice (some b) 1 c]).run P w=.ok (.slice (some ⟨g.1,g.2,none⟩) (n+1) k) w'∧cB (nw go) w w'∧(w.heap.size≤g.1∨nw go g.1)∧w'.heap[g.1]? = some (.cells arr el (0,0)) ∧
   n+1≤k∧k≤maxLen∧k*φ.size+g.2=arr.size∧∀(j:Nat) x,(cs++us)[j]? = some x→arr[g.2+j]? = some x:=by
  intro A cap hu hcap hA hxs
  subst hu
  obtain⟨k,vs,r1,r2,r3,r4,r5⟩:=vo (P:=P) (w:=w) t ty el hd hφ hpos hz0 A n cap cs hcs hxs hA b 1 c us hul1 hus (by omega) h63 hb
  refine⟨(w.heap.size,0),k,vs,_,r1,⟨rfl,rfl,rfl,by simp,fun k hk _=>heap_alloc_old w.drew _ hk⟩,.inl (Nat.le_refl _),heap_alloc_new w.drew _,r2,r3,by omega,fun j x hj =>?_⟩
  rw[← r5]at hj
  rw[List.getElem?_take]at hj
  split at hj
  ·simpa using hj
  ·cases hj
 rcases hs with⟨g,c0,arr,hgo,hu,hh,hsz,hn,hmx,hcell⟩|⟨hgo,rfl,rfl,A,hu⟩
 ·by_cases hroom:n+1≤c0
  ·subst hu
   have hfit:g.2+n*φ.size+us.length≤arr.size:=by
    have:=Nat.mul_le_mul_right φ.size hroom
    rw[Nat.add_mul]at this
    omega
   have hr:=xb (P:=P) (w:=w) t ty el hd hφ g.1 g.2 n c0 arr hh b 1 c us hul1 hus h1 hroom hfit
   refine⟨g,c0,_,_,hr,Fm ⟨g,hgo,rfl⟩ _,.inr ⟨g,hgo,rfl⟩,setRow_heap w g.1 arr _ el (0,0) hh,hroom,hmx,?_,fun j x hj =>?_⟩
   ·simp only[List.size_toArray,List.length_append,List.length_take,List.length_drop,Array.length_toList]
    omega
   ·have hjl:=(List.getElem?_eq_some_iff.1 hj).1
    rw[List.length_append]at hjl
    simp only[List.getElem?_toArray]
    rw[List.append_assoc]
    by_cases hjn:j<cs.length
    ·rw[List.getElem?_append_left hjn]at hj
     have:=hcell j x hj
     rw[List.getElem?_append_left (by simp;omega),List.getElem?_take,if_pos (by omega)]
     simpa using this
    ·rw[List.getElem?_append_right (by omega)]at hj
     rw[List.getElem?_append_right (by simp;omega),List.getElem?_append_left (by simp;omega),← hj]
     congr 1
     simp
     omega
  ·exact new (some ⟨g.1,g.2,none⟩) c0 hu (by omega) (fun h=>by cases h) (fun ad had j u hj=>by
    cases had
    have:=hcell j u hj
    have hlt:=(Array.getElem?_eq_some_iff.1 this).1
    rw[lV,bH hh hlt,Array.getD_eq_getD_getElem?,this]
    rfl)
 ·exact new A 0 hu (by omega) (fun _=>⟨rfl,rfl⟩) (fun ad _ j u hj=>by simp at hj)
theorem E3 {ops:Array Oper} {o:Oper} {a:Act} {K:Act→World→Prop} {Q:Exit→Act→World→Prop} {X:Prop} (hgd:o.guard=none) (s x:Operand) (t el:Nat)
  (ho:o.op=.call { callee := .builtin .append,args:=#[s,x],argTypes:=#[t,t] }) {φ:Ty} (hd:P.underlying t=some (.slice el)) (hφ:dF P el φ) (hpos:0<φ.size) (hz0:φ.zero.length=φ.size) (hby:0<φ.bytes)
  {go:Option (Nat×Nat)} {u:Value} {n:Nat} {cs:List Value} (hsv:a.eval s=u) (hs:zV w el φ.size go u n cs) (hcs:cs.length=n*φ.size)
  (b:Addr) (c:Nat) (us:List Value) (hx:a.eval x=.slice (some b) 1 c) (hul:us.length=φ.size) (hus:∀j u,us[j]? = some u→w.cell? (b.add j)=some u) (h1:∀u∈us,u.oneCell'=true) (hb:(n+1)*φ.bytes≤140737488355328)
  (h:∀(g:Nat×Nat) (k:Nat) (arr:Array Value) (w':World),cB (nw go) w w'→(w.heap.size≤g.1∨nw go g.1)→w'.heap[g.1]? = some (.cells arr el (0,0)) →
   n+1≤k→k≤maxLen→k*φ.size+g.2=arr.size→(∀(j:Nat) x,(cs++us)[j]? = some x→arr[g.2+j]? = some x)→K (a.put o.dst (.slice (some ⟨g.1,g.2,none⟩) (n+1) k)) w') :
  if Region.wanted o (yielded ops a.tmps)=true then Oper.wp P o a w K Q else X:=by
 have hw:Region.wanted o (yielded ops a.tmps)=true:=by simp[Region.wanted,hgd]
 rw[if_pos hw]
 obtain⟨g,k,arr,w',hr,q1,q2,q3,q4,q5,q6,q7⟩:=Gd (P:=P) t o.type el hd hφ hpos hz0 hby hs hcs b c us hul hus h1 hb
 unfold Oper.wp execOp
 simp only[ho,resolve,invoke,builtin,Sem.run_bind,Sem.run_pure,Result.andThen_ok,List.map_toArray,List.map_cons,List.map_nil,hsv,hx,hr]
 exact h g k arr w' q1 q2 q3 q4 q5 q6 q7
theorem zV.later {ty k:Nat} {go:Option (Nat×Nat)} {u:Value} {n:Nat} {cs:List Value} {w':World} (hs:zV w ty k go u n cs) (hb:cB (fun _=>False) w w'):zV w' ty k go u n cs:=by
 rcases hs with⟨g,c0,arr,hgo,hu,hh,q⟩|q
 ·exact .inl ⟨g,c0,arr,hgo,hu,(hb.block g.1 (Array.getElem?_eq_some_iff.1 hh).1 (fun h=>h)).trans hh,q⟩
 ·exact .inr q
end
def kY (gy:Nat×Nat) (ya:Array Value) (ty:Nat) (go:Option (Nat×Nat)) (n el size:Nat) (cs:List Value) (w:World) (e:Ending) (w':World):Prop :=
 e=.returned (.int .i64 (n:Int))∧cB (fun b=>b=gy.1∨nw go b) w w' ∧
  ∃(g:Nat×Nat) (c:Nat) (arr:Array Value),(w.heap.size≤g.1∨nw go g.1)∧w'.heap[gy.1]? = some (.cells (ya.setIfInBounds gy.2 (.slice (some ⟨g.1,g.2,none⟩) (n+1) c)) ty (0,0))∧w'.heap[g.1]? = some (.cells arr el (0,0)) ∧
   n+1≤c∧c≤maxLen∧c*size+g.2=arr.size∧∀(j:Nat) x,cs[j]? = some x→arr[g.2+j]? = some x
theorem CM (w:World) (o o':Obj):cB (fun _=>False) w ((w.alloc o).alloc o').drew:=⟨rfl,rfl,rfl,by simp;omega,fun k hk _=>(heap_alloc_old (w.alloc o) o' (by simp;omega)).trans (heap_alloc_old w o hk)⟩
theorem kY.base {gy:Nat×Nat} {ya:Array Value} {ty:Nat} {go:Option (Nat×Nat)} {n el size:Nat} {cs:List Value} {w wA w':World} {e:Ending} (hA:cB (fun _=>False) w wA) (h:kY gy ya ty go n el size cs wA e w'):kY gy ya ty go n el size cs w e w':=by
 obtain⟨h1,h2,g,c,arr,h3,h4⟩:=h
 exact⟨h1,cB.trans (L:=fun b=>b=gy.1∨nw go b) ⟨hA.os,hA.tape,hA.output,hA.size,fun k hk _=>hA.block k hk (fun h=>h)⟩ h2 (fun x hx _=>hx),g,c,arr,h3.imp (fun h=>Nat.le_trans hA.size h) (fun h=>h),h4⟩
theorem xc (w:World) (a:Addr) (u:Value) (k:Nat) (h:k≠a.block):(w.setCell a u).heap[k]? = w.heap[k]?:=by
 simp only[World.setCell,Array.getElem?_modify]
 rw[if_neg (Ne.symm h)]
theorem SK {w wA w2:World} {gy g:Nat×Nat} {ya arr:Array Value} {ty el size n k:Nat} {go:Option (Nat×Nat)} {cs:List Value} (hy:w.heap[gy.1]? = some (.cells ya ty (0,0))) (hul:gy.2<ya.size) (hne:∀g,go=some g→g.1≠gy.1) (hA:cB (fun _=>False) w wA) (q1:cB (nw go) wA w2)
  (q2:wA.heap.size≤g.1∨nw go g.1) (q3:w2.heap[g.1]? = some (.cells arr el (0,0))) (q4:n+1≤k) (q5:k≤maxLen) (q6:k*size+g.2=arr.size) (q7:∀(j:Nat) x,cs[j]? = some x→arr[g.2+j]? = some x) (hk0:w2.heap[gy.1]? = some (.cells ya ty (0,0))) :
  kY gy ya ty go n el size cs w (.returned (.int .i64 (n:Int))) (w2.setCell ⟨gy.1,gy.2,none⟩ (.slice (some ⟨g.1,g.2,none⟩) (n+1) k)):=by
 obtain⟨hyl,-⟩:=Array.getElem?_eq_some_iff.1 hy
 have hgg:g.1≠gy.1:=by
  rcases q2 with q2|⟨g0,hg0,he⟩
  ·have:=hA.size;omega
  ·rw[he];exact hne g0 hg0
 have hb:cB (fun b=>b=gy.1∨nw go b) w w2:=cB.trans (L:=fun b=>b=gy.1∨nw go b) (L':=nw go) ⟨hA.os,hA.tape,hA.output,hA.size,fun k hk _=>hA.block k hk (fun h=>h)⟩ q1 (fun x hx _ =>.inr hx)
 refine⟨rfl,⟨hb.os,hb.tape,hb.output,by simpa [World.setCell] using hb.size,fun b hb1 hb2 =>?_⟩,g,k,arr,?_,?_,?_,q4,q5,q6,q7⟩
 ·rw[xc _ _ _ _ (fun h=>hb2 (.inl h))]
  exact hb.block b hb1 hb2
 ·exact q2.imp (fun h=>Nat.le_trans hA.size h) (fun h=>h)
 ·simp[World.setCell,Array.getElem?_modify,hk0]
 ·rw[xc _ _ _ _ hgg];exact q3
set_option maxHeartbeats 2000000 in
set_option maxRecDepth 100000 in
theorem Kh (w:World) (gy:Nat×Nat) (ya:Array Value) (ty:Nat) (go:Option (Nat×Nat)) (u:Value) (n:Nat) (cs:List Value) (s:ByteArray) (v1 v2 v3 v4:Int) (hy:w.heap[gy.1]? = some (.cells ya ty (0,0))) (hu:ya[gy.2]? = some u)
  (hs:zV w 87 5 go u n cs) (hne:∀g,go=some g→g.1≠gy.1) (hcs:cs.length=n*5) (hb:(n+1)*48≤140737488355328) :
  Calls Tryz.prog 64 #[.pointer (some ⟨gy.1,gy.2,none⟩),.agg #[.string s,.int .i64 v1,.int .i64 v2,.int .i64 v3,.int .i64 v4]] w (kY gy ya ty go n 87 5 (cs++[.string s,.int .i64 v1,.int .i64 v2,.int .i64 v3,.int .i64 v4]) w):=by
 obtain⟨hyl,-⟩:=Array.getElem?_eq_some_iff.1 hy
 obtain⟨hul,hue⟩:=Array.getElem?_eq_some_iff.1 hu
 have hcell:∀w':World,w'.heap[gy.1]? = w.heap[gy.1]?→w'.cell? ⟨gy.1,gy.2,none⟩=some u∧w'.frozen? ⟨gy.1,gy.2,none⟩=false:=by
  intro w' h
  rw[hy]at h
  refine⟨?_,?_⟩
  ·rw[bH h hul,Array.getD_eq_getD_getElem?,hu];rfl
  ·simp[World.frozen?,h]
 go_enter Tryz.func64,Tryz.ntmps64
 go_wp2
 generalize hW:w.alloc (.cells #[.string s,.int .i64 v1,.int .i64 v2,.int .i64 v3,.int .i64 v4] 87)=W
 have hWs:W.heap.size=w.heap.size+1:=by rw[← hW];simp
 have hWb:cB (fun _=>False) w W:=by rw[← hW];exact IF _ w _
 have hWn:W.heap[w.heap.size]? = some (.cells #[.string s,.int .i64 v1,.int .i64 v2,.int .i64 v3,.int .i64 v4] 87):=by rw[← hW];exact heap_alloc_new w _
 have c0:W.drew.cell? ⟨gy.1,gy.2,none⟩=some u:=(hcell W.drew (hWb.block gy.1 hyl (fun h=>h))).1
 have c1:∀o,(W.drew.alloc o).cell? ⟨gy.1,gy.2,none⟩=some u:=fun o=>(hcell (W.drew.alloc o) ((heap_alloc_old W.drew o (by show gy.1<W.heap.size;omega)).trans (hWb.block gy.1 hyl (fun h=>h)))).1
 have c2:∀o,(W.alloc o).drew.cell? ⟨gy.1,gy.2,none⟩=some u:=c1
 have b0:W.drew.cell? ⟨w.heap.size,0,none⟩=some (.string s):=bH (w:=W.drew) hWn (by simp)
 have b1:W.drew.cell? ⟨w.heap.size,1,none⟩=some (.int .i64 v1):=bH (w:=W.drew) hWn (by simp)
 have b2:W.drew.cell? ⟨w.heap.size,2,none⟩=some (.int .i64 v2):=bH (w:=W.drew) hWn (by simp)
 have b3:W.drew.cell? ⟨w.heap.size,3,none⟩=some (.int .i64 v3):=bH (w:=W.drew) hWn (by simp)
 have b4:W.drew.cell? ⟨w.heap.size,4,none⟩=some (.int .i64 v4):=bH (w:=W.drew) hWn (by simp)
 generalize hO:Obj.cells #[.string s,.int .i64 v1,.int .i64 v2,.int .i64 v3,.int .i64 v4] 87=O at *
 have hbb:cB (fun _=>False) w (W.drew.alloc O):=hWb.trans (show cB (fun _=>False) W (W.drew.alloc O) from ⟨rfl,rfl,rfl,by simp,fun k hk _=>heap_alloc_old W.drew O hk⟩) (fun _ h _=>h)
 have hsA:=hs.later hbb
 have hnews:∀(j:Nat) x,([Value.string s,.int .i64 v1,.int .i64 v2,.int .i64 v3,.int .i64 v4]:List Value)[j]? = some x→(W.drew.alloc O).cell? ((⟨w.heap.size+1,0,none⟩:Addr).add j)=some x:=by
  intro j x hj
  have hn:(W.drew.alloc O).heap[w.heap.size+1]? = some (.cells #[.string s,.int .i64 v1,.int .i64 v2,.int .i64 v3,.int .i64 v4] 87):=by rw[hO,← hWs];exact heap_alloc_new W.drew _
  have hlt:=(List.getElem?_eq_some_iff.1 hj).1
  rw[lV,Nat.zero_add,bH hn (by simpa using hlt),Array.getD_eq_getD_getElem?]
  simp only[List.getElem?_toArray,hj,Option.getD_some]
 have hones:∀x∈([Value.string s,.int .i64 v1,.int .i64 v2,.int .i64 v3,.int .i64 v4]:List Value),x.oneCell'=true:=by
  intro x hx
  simp only[List.mem_cons,List.not_mem_nil,or_false]at hx
  rcases hx with rfl|rfl|rfl|rfl|rfl<;>rfl
 subst hO
 have hnot:¬nw go gy.1:=by rintro⟨g,hg,he⟩;exact hne g hg he.symm
 go_region_law (refine E3 rfl (.tmp 10) (.tmp 12) 22 87 rfl Tryz.underlying22 Yu (by decide) rfl (by decide) rfl hsA hcs ⟨w.heap.size+1,0,none⟩ 1 _ rfl rfl hnews hones hb ?_;intro g k arr w2 q1 q2 q3 q4 q5 q6 q7;have hk0:w2.heap[gy.1]? = some (.cells ya ty (0,0)):=(q1.block gy.1 (Nat.lt_of_lt_of_le hyl hbb.size) hnot).trans ((hbb.block gy.1 hyl (fun h=>h)).trans hy);obtain⟨d0,d1⟩:=hcell w2 (hk0.trans hy.symm))
 all_goals go_wp2
 all_goals go_ret
 all_goals exact SK hy hul hne hbb q1 q2 q3 q4 q5 q6 q7 hk0
set_option maxHeartbeats 4000000 in
set_option maxRecDepth 100000 in
theorem Te (w:World) (gy:Nat×Nat) (ya:Array Value) (ty:Nat) (go:Option (Nat×Nat)) (u:Value) (n:Nat) (cs:List Value) (i j:Nat) (s1 s2:ByteArray) (v1 v2 v3 v4 u1 u2 u3 u4:Int) (hy:w.heap[gy.1]? = some (.cells ya ty (0,0))) (hu:ya[gy.2]? = some u)
  (hs:zV w 87 5 go u n cs) (hne:∀g,go=some g→g.1≠gy.1) (hcs:cs.length=n*5) (hb:(n+1)*48≤140737488355328) (hi:i<n) (hj:j<n)
  (hx:∀q x,[Value.string s1,.int .i64 v1,.int .i64 v2,.int .i64 v3,.int .i64 v4][q]? = some x→cs[i*5+q]? = some x) (hz:∀q x,[Value.string s2,.int .i64 u1,.int .i64 u2,.int .i64 u3,.int .i64 u4][q]? = some x→cs[j*5+q]? = some x) :
  Calls Tryz.prog 66 #[.pointer (some ⟨gy.1,gy.2,none⟩),.int .i64 (i:Int),.int .i64 (j:Int)] w (kY gy ya ty go n 87 5 (cs++[.string ⟨#[]⟩,.int .i64 (IntKind.i64.wrap (v1+u1)),.int .i64 (IntKind.i64.wrap (v2+u2)),.int .i64 (i:Int),.int .i64 (j:Int)]) w):=by
 obtain⟨hyl,-⟩:=Array.getElem?_eq_some_iff.1 hy
 obtain⟨hul,hue⟩:=Array.getElem?_eq_some_iff.1 hu
 rcases hs with⟨g,c,arr,hgo,rfl,hh,hsz,hn,hmx,hcell⟩|⟨-,hn,-⟩
 rotate_left
 ·omega
 obtain⟨hgl,-⟩:=Array.getElem?_eq_some_iff.1 hh
 have ecel:∀w':World,(∀k,k<w.heap.size→w'.heap[k]? = w.heap[k]?)→w'.cell? ⟨gy.1,gy.2,none⟩=some (.slice (some ⟨g.1,g.2,none⟩) n c):=by
  intro w' hw
  rw[bH ((hw _ hyl).trans hy) hul,Array.getD_eq_getD_getElem?,hu];rfl
 have cel:∀w':World,(∀k,k<w.heap.size→w'.heap[k]? = w.heap[k]?)→∀(k:Nat) x,cs[k]? = some x→w'.cell? ⟨g.1,g.2+k,none⟩=some x:=by
  intro w' hw k x hk
  have:=hcell k x hk
  have hlt:=(Array.getElem?_eq_some_iff.1 this).1
  rw[bH ((hw _ hgl).trans hh) hlt,Array.getD_eq_getD_getElem?,this];rfl
 have w1:∀o k,k<w.heap.size→(w.alloc o).heap[k]? = w.heap[k]?:=fun o k hk=>heap_alloc_old w o hk
 have w2:∀o o' k,k<w.heap.size→((w.alloc o).alloc o').heap[k]? = w.heap[k]?:=fun o o' k hk=>(heap_alloc_old (w.alloc o) o' (by simp;omega)).trans (heap_alloc_old w o hk)
 have e0:=ecel w (fun _ _=>rfl)
 have e1:=fun o=>ecel (w.alloc o) (w1 o)
 have e2:=fun o o'=>ecel ((w.alloc o).alloc o') (w2 o o')
 have a0:∀w':World,(∀k,k<w.heap.size→w'.heap[k]? = w.heap[k]?)→w'.cell? ⟨g.1,g.2+i*5,none⟩=some (.string s1):=fun w' hw=>cel w' hw (i*5+0) _ (hx 0 _ rfl)
 have a0x:=a0 w (fun _ _=>rfl)
 have a0y:=fun o=>a0 (w.alloc o) (w1 o)
 have a0z:=fun o o'=>a0 ((w.alloc o).alloc o') (w2 o o')
 clear a0
 have a1:∀w':World,(∀k,k<w.heap.size→w'.heap[k]? = w.heap[k]?)→w'.cell? ⟨g.1,g.2+i*5+1,none⟩=some (.int .i64 v1):=fun w' hw=>cel w' hw (i*5+1) _ (hx 1 _ rfl)
 have a1x:=a1 w (fun _ _=>rfl)
 have a1y:=fun o=>a1 (w.alloc o) (w1 o)
 have a1z:=fun o o'=>a1 ((w.alloc o).alloc o') (w2 o o')
 clear a1
 have a2:∀w':World,(∀k,k<w.heap.size→w'.heap[k]? = w.heap[k]?)→w'.cell? ⟨g.1,g.2+i*5+2,none⟩=some (.int .i64 v2):=fun w' hw=>cel w' hw (i*5+2) _ (hx 2 _ rfl)
 have a2x:=a2 w (fun _ _=>rfl)
 have a2y:=fun o=>a2 (w.alloc o) (w1 o)
 have a2z:=fun o o'=>a2 ((w.alloc o).alloc o') (w2 o o')
 clear a2
 have a3:∀w':World,(∀k,k<w.heap.size→w'.heap[k]? = w.heap[k]?)→w'.cell? ⟨g.1,g.2+i*5+3,none⟩=some (.int .i64 v3):=fun w' hw=>cel w' hw (i*5+3) _ (hx 3 _ rfl)
 have a3x:=a3 w (fun _ _=>rfl)
 have a3y:=fun o=>a3 (w.alloc o) (w1 o)
 have a3z:=fun o o'=>a3 ((w.alloc o).alloc o') (w2 o o')
 clear a3
 have a4:∀w':World,(∀k,k<w.heap.size→w'.heap[k]? = w.heap[k]?)→w'.cell? ⟨g.1,g.2+i*5+4,none⟩=some (.int .i64 v4):=fun w' hw=>cel w' hw (i*5+4) _ (hx 4 _ rfl)
 have a4x:=a4 w (fun _ _=>rfl)
 have a4y:=fun o=>a4 (w.alloc o) (w1 o)
 have a4z:=fun o o'=>a4 ((w.alloc o).alloc o') (w2 o o')
 clear a4
 have b0:∀w':World,(∀k,k<w.heap.size→w'.heap[k]? = w.heap[k]?)→w'.cell? ⟨g.1,g.2+j*5,none⟩=some (.string s2):=fun w' hw=>cel w' hw (j*5+0) _ (hz 0 _ rfl)
 have b0x:=b0 w (fun _ _=>rfl)
 have b0y:=fun o=>b0 (w.alloc o) (w1 o)
 have b0z:=fun o o'=>b0 ((w.alloc o).alloc o') (w2 o o')
 clear b0
 have b1:∀w':World,(∀k,k<w.heap.size→w'.heap[k]? = w.heap[k]?)→w'.cell? ⟨g.1,g.2+j*5+1,none⟩=some (.int .i64 u1):=fun w' hw=>cel w' hw (j*5+1) _ (hz 1 _ rfl)
 have b1x:=b1 w (fun _ _=>rfl)
 have b1y:=fun o=>b1 (w.alloc o) (w1 o)
 have b1z:=fun o o'=>b1 ((w.alloc o).alloc o') (w2 o o')
 clear b1
 have b2:∀w':World,(∀k,k<w.heap.size→w'.heap[k]? = w.heap[k]?)→w'.cell? ⟨g.1,g.2+j*5+2,none⟩=some (.int .i64 u2):=fun w' hw=>cel w' hw (j*5+2) _ (hz 2 _ rfl)
 have b2x:=b2 w (fun _ _=>rfl)
 have b2y:=fun o=>b2 (w.alloc o) (w1 o)
 have b2z:=fun o o'=>b2 ((w.alloc o).alloc o') (w2 o o')
 clear b2
 have b3:∀w':World,(∀k,k<w.heap.size→w'.heap[k]? = w.heap[k]?)→w'.cell? ⟨g.1,g.2+j*5+3,none⟩=some (.int .i64 u3):=fun w' hw=>cel w' hw (j*5+3) _ (hz 3 _ rfl)
 have b3x:=b3 w (fun _ _=>rfl)
 have b3y:=fun o=>b3 (w.alloc o) (w1 o)
 have b3z:=fun o o'=>b3 ((w.alloc o).alloc o') (w2 o o')
 clear b3
 have b4:∀w':World,(∀k,k<w.heap.size→w'.heap[k]? = w.heap[k]?)→w'.cell? ⟨g.1,g.2+j*5+4,none⟩=some (.int .i64 u4):=fun w' hw=>cel w' hw (j*5+4) _ (hz 4 _ rfl)
 have b4x:=b4 w (fun _ _=>rfl)
 have b4y:=fun o=>b4 (w.alloc o) (w1 o)
 have b4z:=fun o o'=>b4 ((w.alloc o).alloc o') (w2 o o')
 clear b4
 clear hx hz ecel cel w1
 have w3:∀o o' k,k<w.heap.size→((w.alloc o).alloc o').drew.heap[k]? = w.heap[k]?:=w2
 have hi1:(0:Int)≤(i:Int):=by omega
 have hi2:(i:Int)<(n:Int):=by omega
 have hj1:(0:Int)≤(j:Int):=by omega
 have hj2:(j:Int)<(n:Int):=by omega
 go_enter Tryz.func66,Tryz.ntmps66
 go_wp2
 go_region
 all_goals (go_wp2_with (go_at_call 64;refine (Kh _ gy ya ty go _ n cs _ _ _ _ _ ((w3 _ _ _ hyl).trans hy) hu (zV.later (.inl ⟨g,c,arr,hgo,rfl,hh,hsz,hn,hmx,hcell⟩) (CM w _ _)) hne hcs hb).mono ?_;rintro e w' hp;obtain⟨rfl,hp2⟩:=kY.base (CM w _ _) hp))
 all_goals go_ret
 all_goals (simp only[← IntWalk.i64_left]at hp2;exact⟨rfl,hp2.1,hp2.2⟩)
section
variable {α:Type} (E:jU α) (mk:ByteArray→Int→Int→Int→Int→α) (hmk:∀s a b c d,E.cells (mk s a b c d)=[.str s,.int .i64 a,.int .i64 b,.int .i64 c,.int .i64 d]) (hall:∀x,∃s a b c d,x=mk s a b c d)
include hmk hall
theorem tv:E.size=5:=by
 rw[← E.len (mk ⟨#[]⟩ 0 0 0 0),hmk];rfl
theorem tu (x:α):∀d∈E.cells x,wU d=true:=by
 obtain⟨s,a,b,c,d,rfl⟩:=hall x
 rw[hmk]
 intro y hy
 simp only[List.mem_cons,List.not_mem_nil,or_false]at hy
 rcases hy with rfl|rfl|rfl|rfl|rfl<;>rfl
theorem BG (l:List α):∀d∈ab E l,wU d=true:=by
 induction l with
 | nil=>intro d hd;cases hd
 | cons x l ih =>
  intro d hd
  rcases List.mem_append.1 hd with h|h
  ·exact tu E mk hmk hall x d h
  ·exact ih d h
theorem YC:Cz Tryz.prog 64 ⟨87,5,48,rn E (dn (cI E)) Oe⟩ where
 callable:=⟨_,Tryz.func64,by kernel_rfl,by kernel_rfl⟩
 pos:=Nat.zero_lt_succ 4
 flat ds us cs h:=by
  obtain⟨l,b,x,rfl,rfl,hx,rfl⟩:=sG (show rn E (dn (cI E)) Oe ds us=some cs from h)
  refine⟨BG E mk hmk hall l,fun d hd =>?_,tu E mk hmk hall x,by rw[E.len];exact tv E mk hmk hall⟩
  simp only[dn,List.mem_cons,List.not_mem_nil,or_false]at hd
  subst hd
  exact List.all_eq_true.2 (tu E mk hmk hall b)
 calls w gy ya ty go u n ds us cs hy hu hs hne hlen hsem hb:=by
  obtain⟨l,b,x,rfl,rfl,hx,rfl⟩:=sG (show rn E (dn (cI E)) Oe ds us=some cs from hsem)
  obtain rfl:b=x:=by simpa [Oe] using hx
  obtain⟨s,v1,v2,v3,v4,rfl⟩:=hall b
  have h:=Kh w gy ya ty go u n _ s v1 v2 v3 v4 hy hu hs hne (by simpa using hlen) hb
  have e1:(dn (cI E)).ds (mk s v1 v2 v3 v4)=[.agg [.str s,.int .i64 v1,.int .i64 v2,.int .i64 v3,.int .i64 v4]]:=by
   simp only[dn,YB,hmk]
  rw[e1,hmk]
  refine h.mono fun e w' hp =>?_
  simpa [kY,Ca] using hp
end
section
variable {α:Type} (E:jU α) (mk:ByteArray→Int→Int→Int→Int→α) (hmk:∀s a b c d,E.cells (mk s a b c d)=[.str s,.int .i64 a,.int .i64 b,.int .i64 c,.int .i64 d]) (hall:∀x,∃s a b c d,x=mk s a b c d) (val bl:α→Int) (hval:∀s a b c d,val (mk s a b c d)=a) (hbl:∀s a b c d,bl (mk s a b c d)=b)
include hmk hall hval hbl
theorem E5 {l:List α} {i:Int} {s:ByteArray} {v1 v2 v3 v4:Int} (h:P.idx l i=some (mk s v1 v2 v3 v4)):0≤i∧i<l.length∧∀q x,[Value.string s,.int .i64 v1,.int .i64 v2,.int .i64 v3,.int .i64 v4][q]? = some x→((ab E l).map Ca)[i.toNat*5+q]? = some x:=by
 have hb:=xH h
 have ha:=yT E h
 rw[tv E mk hmk hall,hmk]at ha
 refine⟨hb.1,hb.2,fun q x hx =>?_⟩
 have hq:=(List.getElem?_eq_some_iff.1 hx).1
 simp only[List.length_cons,List.length_nil]at hq
 have h1:((ab E l).drop (i.toNat*5))[q]? = [D.str s,.int .i64 v1,.int .i64 v2,.int .i64 v3,.int .i64 v4][q]?:=by
  rw[ha,List.getElem?_append_left (by simpa using hq)]
 rw[List.getElem?_drop]at h1
 rw[List.getElem?_map,h1,← List.getElem?_map]
 exact hx
theorem Xr:Cz Tryz.prog 66 ⟨87,5,48,rn E (cH (aI .i64) (dn (aI .i64))) (Eu mk val bl)⟩ where
 callable:=⟨_,Tryz.func66,by kernel_rfl,by kernel_rfl⟩
 pos:=Nat.zero_lt_succ 4
 flat ds us cs h:=by
  obtain⟨l,b,x,rfl,rfl,hx,rfl⟩:=sG (show rn E (cH (aI .i64) (dn (aI .i64))) (Eu mk val bl) ds us=some cs from h)
  refine⟨BG E mk hmk hall l,fun d hd =>?_,tu E mk hmk hall x,by rw[E.len];exact tv E mk hmk hall⟩
  simp only[dn,cH,abe,List.mem_cons,List.not_mem_nil,or_false]at hd
  rcases hd with rfl|rfl<;>rfl
 calls w gy ya ty go u n ds us cs hy hu hs hne hlen hsem hb:=by
  obtain⟨l,⟨i,j⟩,z,rfl,rfl,hz,rfl⟩:=sG (show rn E (cH (aI .i64) (dn (aI .i64))) (Eu mk val bl) ds us=some cs from hsem)
  unfold Eu at hz
  obtain⟨x,hx,hz⟩:=ae hz
  obtain⟨y,hy1,hz⟩:=ae hz
  simp only[Option.some.injEq]at hz
  subst hz
  obtain⟨s,v1,v2,v3,v4,rfl⟩:=hall x
  obtain⟨s2,u1,u2,u3,u4,rfl⟩:=hall y
  obtain⟨i1,i2,i3⟩:=E5 E mk hmk hall val bl hval hbl hx
  obtain⟨j1,j2,j3⟩:=E5 E mk hmk hall val bl hval hbl hy1
  have hn:l.length=n:=by
   rw[dx,tv E mk hmk hall]at hlen
   exact Nat.eq_of_mul_eq_mul_right (by decide) hlen
  have h:=Te w gy ya ty go u n _ i.toNat j.toNat s s2 v1 v2 v3 v4 u1 u2 u3 u4 hy hu hs hne (by simpa using hlen) hb (by omega) (by omega) i3 j3
  have ei:((i.toNat:Nat):Int)=i:=by omega
  have ej:((j.toNat:Nat):Int)=j:=by omega
  rw[ei,ej]at h
  rw[hmk,hval,hval,hbl,hbl]
  refine h.mono fun e w' hp =>?_
  simpa [kY,Ca] using hp
end
set_option maxRecDepth 100000
noncomputable def Ma:List (String×DataW Unit):=[("math/bits.deBruijn32tab",Rows.laid_math_bits_deBruijn32tab),("math/bits.deBruijn64tab",Rows.laid_math_bits_deBruijn64tab),("internal/strconv.uint64pow10",Rows.laid_internal_strconv_uint64pow10)]
theorem UA (os:Os) (args:Array Value):laidMetH Tryz.prog Ma ((World.doorLaid Tryz.prog 400 os).forCall (fun _ _=>0) ⟨#[],args,[]⟩).memory :=
 laidMetH_of_parts3 (fuel:=8) (laidMet_of_run' 8 (by kernel_rfl) (by kernel_rfl)) (by kernel_rfl) (by kernel_rfl)
theorem Xg:Rows.laid_internal_strconv_uint64pow10 (H:=Unit)=Lib.tabData .u64 Lib.pow10Tab:=by
 simp[Rows.laid_internal_strconv_uint64pow10,Lib.tabData,Lib.pow10Tab,List.range,List.range.loop]
theorem U7 {w:World} (h:laidMetH Tryz.prog Ma w):IE w (fun _=>False):=fun b hb=>by
 rw[MakeChecks.laidMetH_plain _ _ _ (by kernel_rfl)]at h
 have h3:laidMet Tryz.prog [("internal/strconv.uint64pow10",Rows.laid_internal_strconv_uint64pow10)] w:=h.tail.tail
 rw[Xg]at h3
 have ht:Lib.TabIs Tryz.prog w "internal/strconv.uint64pow10" .u64 Lib.pow10Tab:=Lib.tabIs_of_head (g:=0) (t:=204) (e:=178) (n:=20) (by kernel_rfl) (by kernel_rfl) (by kernel_rfl) (by kernel_rfl) (by kernel_rfl) (by kernel_rfl) h3
 cases hb
 have hg:Tryz.prog.globalNamed "internal/strconv.uint64pow10" = some 0:=by kernel_rfl
 simp only[Lib.TabIs,World.var?,hg,Option.bind_some]at ht
 have hc:∃ty fr,w.heap[0]? = some (.cells nF ty fr):=by
  split at ht
  ·rename_i cs ty fr hcs
   refine⟨ty,fr,?_⟩
   rw[hcs]
   have e:cs=nF:=by
    have:=Option.some.inj ht
    rw[this]
    simp[Lib.pow10Tab,nF]
   rw[e]
  ·cases ht
 obtain⟨ty,fr,hc⟩:=hc
 exact⟨(Array.getElem?_eq_some_iff.1 hc).1,fun h=>h,ty,fr,hc⟩
end Go.Proofs.YtpkahnkoecbndaaGreatDoor.Am
namespace Go.Proofs.YtpkahnkoecbndaaGreatDoor.P
open Go.RowKit
set_option linter.unusedVariables false
structure aw where
 ah:Int
 aa:(List Int)
structure aQ where
 cn:aw
 cl:aw
structure dt where
 bq:aQ
 aT:aQ
structure az where
 cg:Int
 bz:dt
structure Qq where
 Cl:(List ByteArray)
 yK:(List Int)
 yJ:(List Int)
structure aF where
 cg:Int
 cP:(List Int)
 cp:ByteArray
 aE:Int
 aY:Int
structure bn where
 cg:Int
 lj:Int
structure av where
 cp:ByteArray
 aE:Int
 aY:Int
 bT:Int
 bJ:Int
structure au where
 ag:(List av)
structure j9 where
 Xd:au
 Ac:Int
 vF:Int
 vE:Int
structure ye where
 Cm:au
def ZL:ByteArray:=ByteArray.mk #[0,1,2,2,3,3,3,3,4,4,4,4,4,4,4,4,5,5,5,5,5,5,5,5,5,5,5,5,5,5,5,5,6,6,6,6,6,6,6,6,6,6,6,6,6,6,6,6,6,6,6,6,6,6,6,6,6,6,6,6,6,6,6,6,7,7,7,7,7,7,7,7,7,7,7,7,7,7,7,7,7,7,7,7,7,7,7,7,7,7,7,7,7,7,7,7,7,7,7,7,7,7,7,7,7,7,7,7,7,7,7,7,7,7,7,7,7,7,7,7,7,7,7,7,7,7,7,7,8,8,8,8,8,8,8,8,8,8,8,8,8,8,8,8,8,8,8,8,8,8,8,8,8,8,8,8,8,8,8,8,8,8,8,8,8,8,8,8,8,8,8,8,8,8,8,8,8,8,8,8,8,8,8,8,8,8,8,8,8,8,8,8,8,8,8,8,8,8,8,8,8,8,8,8,8,8,8,8,8,8,8,8,8,8,8,8,8,8,8,8,8,8,8,8,8,8,8,8,8,8,8,8,8,8,8,8,8,8,8,8,8,8,8,8,8,8,8,8,8,8,8,8,8,8,8,8]
def eA (p0:Int) (p1:Int):Option (Bool) :=
 if decide (p0≥0) then
  some (decide (p0≤p1))
 else
  some false
def jm (p0:av):Option (Bool) :=
 (if (p0.bT==(-1)) then
  some (p0.bJ==(-1))
 else
  some false).bind fun s3j1 =>
 if s3j1 then
  if decide ((p0.cp.size:Int)≤8000) then
   (eA p0.aE 1099511627776).bind fun r4 =>
   if r4 then
    (eA p0.aY 1099511627776).bind fun r6 =>
    some r6
   else
    some false
  else
   some false
 else
  some false
def kh (p0:(List av)) (p1:Int) (p2:Int):Option (av×Int) :=
 (eA p1 (IntKind.i64.wrap ((p0.length:Int)-1))).bind fun r1 =>
 (if (!r1) then
  some true
 else
  (eA p2 (IntKind.i64.wrap ((p0.length:Int)-1))).bind fun r9 =>
  some (!r9)).bind fun s24j1 =>
 if s24j1 then
  some ((av.mk (ByteArray.mk #[]) 0 0 0 0),4)
 else
  (P.idx p0 p1).bind fun x4 =>
  (P.idx p0 p2).bind fun x5 =>
  if decide ((IntKind.i64.wrap (x4.aE+x5.aE))>1125899906842624) then
   some ((av.mk (ByteArray.mk #[]) 0 0 0 0),3)
  else
   if decide ((IntKind.i64.wrap (x4.aY+x5.aY))>1125899906842624) then
    some ((av.mk (ByteArray.mk #[]) 0 0 0 0),3)
   else
    some ((av.mk (ByteArray.mk #[]) (IntKind.i64.wrap (x4.aE+x5.aE)) (IntKind.i64.wrap (x4.aY+x5.aY)) p1 p2),0)
def lL (p0:au):(Int)→Option ((Int)⊕((Unit)⊕(Bool)))
 | s14a =>
  if decide (s14a<(p0.ag.length:Int)) then
   (P.idx p0.ag s14a).bind fun x13 =>
   (jm x13).bind fun r14 =>
   if r14 then
    some (.inl (IntKind.i64.wrap (s14a+1)))
   else
    (E1 p0.ag 0 s14a).bind fun x16 =>
    (kh x16 x13.bT x13.bJ).bind fun r18 =>
    if (r18.2 != 0) then
     some (.inr (.inr false))
    else
     if (!((x13.cp==r18.1.cp)&&((x13.aE==r18.1.aE)&&((x13.aY==r18.1.aY)&&((x13.bT==r18.1.bT)&&(x13.bJ==r18.1.bJ)))))) then
      some (.inr (.inr false))
     else
      some (.inl (IntKind.i64.wrap (s14a+1)))
  else
   some (.inr (.inl ()))
def dY (p0:au):Option (Bool) :=
 if decide ((p0.ag.length:Int)>2000) then
  some false
 else
  (aS (lL p0) 0).bind fun q=>match q with
  | (.inl _) =>
   some true
  | (.inr ra) =>
   some ra
def oG (p0:ByteArray) (p1:Int) (p2:Int):Option (av) :=
 some (av.mk p0 p1 p2 (-1) (-1))
def ez (p0:(List av)):Option (List av):=ik 48 [] p0
def rG (l:List av) (p1:av):Option (List av):=(Oe l p1).bind fun x=>ik 48 l [x]
def bI (p0:(List Int)):Option (List Int):=ik 8 [] p0
def qM (l:List av) (p1:Int) (p2:Int):Option (List av):=((Eu av.mk (fun x=>x.aE) (fun x=>x.aY)) l (p1,p2)).bind fun x=>ik 48 l [x]
def xh (p1:(List ByteArray)) (p2:(List Int)) (p3:(List Int)):(Int)→Option ((Int)⊕((Unit)⊕(au×Int×(List Int)×Int)))
 | s43b =>
  if decide (s43b<(p1.length:Int)) then
   (P.idx p1 s43b).bind fun x14 =>
   (P.idx p2 s43b).bind fun x15 =>
   (P.idx p3 s43b).bind fun x16 =>
   (oG x14 x15 x16).bind fun r17 =>
   (dY (au.mk ([r17]))).bind fun r19 =>
   if (!r19) then
    some (.inr (.inr ((au.mk ([])),(-1),[],1)))
   else
    some (.inl (IntKind.i64.wrap (s43b+1)))
  else
   some (.inr (.inl ()))
def xi (p1:(List ByteArray)) (p2:(List Int)) (p3:(List Int)):(Int×(List Int)×(List av))→Option ((Int×(List Int)×(List av))⊕(((List Int)×(List av))))
 | (s85d,l10d,l1000014d) =>
  if decide (s85d<(p1.length:Int)) then
   (P.idx p1 s85d).bind fun x35 =>
   (P.idx p2 s85d).bind fun x36 =>
   (P.idx p3 s85d).bind fun x37 =>
   (oG x35 x36 x37).bind fun r38 =>
   (rG l1000014d r38).bind fun x39 =>
   (ik 8 l10d [(l1000014d.length:Int)]).bind fun x41 =>
   some (.inl (IntKind.i64.wrap (s85d+1),x41,x39))
  else
   some (.inr (l10d,l1000014d))
def xk (l16e:(List Int)):(Int×(List Int)×(List av))→Option ((Int×(List Int)×(List av))⊕(((List Int)×(List av))))
 | (s18g,l17g,l1000014g) =>
  if decide ((IntKind.i64.wrap (s18g+1))<((l16e).length:Int)) then
   (P.idx l16e s18g).bind fun x77 =>
   (P.idx l16e (IntKind.i64.wrap (s18g+1))).bind fun x78 =>
   (qM l1000014g x77 x78).bind fun x79 =>
   (ik 8 l17g [(l1000014g.length:Int)]).bind fun x81 =>
   some (.inl (IntKind.i64.wrap (s18g+2),x81,x79))
  else
   some (.inr (l17g,l1000014g))
def xj:((List Int)×(List av))→Option (((List Int)×(List av))⊕(((List Int)×(List av))))
 | (l16e,l1000014e) =>
  if decide (((l16e).length:Int)>1) then
   (aS (xk l16e) (0,[],l1000014e)).bind fun q=>match q with
   | (l17gx,l1000014gx) =>
    (wD .i64 ((l16e).length:Int) 2).bind fun x83 =>
    if (x83==1) then
     (P.idx l16e (IntKind.i64.wrap (((l16e).length:Int)-1))).bind fun x86 =>
     (ik 8 l17gx [x86]).bind fun x87 =>
     some (.inl (x87,l1000014gx))
    else
     some (.inl (l17gx,l1000014gx))
  else
   some (.inr (l16e,l1000014e))
def ma (p0:au) (p1:(List ByteArray)) (p2:(List Int)) (p3:(List Int)):Option (au×Int×(List Int)×Int) :=
 (dY p0).bind fun r1 =>
 (if (!r1) then
  some true
 else
  if ((p1.length:Int)==0) then
   some true
  else
   if ((p2.length:Int) != (p1.length:Int)) then
    some true
   else
    some ((p3.length:Int) != (p1.length:Int))).bind fun s39j1 =>
 if s39j1 then
  some ((au.mk ([])),(-1),[],1)
 else
  (aS (xh p1 p2 p3) 0).bind fun q=>match q with
  | (.inl _) =>
   (if decide ((p1.length:Int)>64) then
    some true
   else
    some (decide ((IntKind.i64.wrap ((IntKind.i64.wrap ((p0.ag.length:Int)+(IntKind.i64.wrap (2*(p1.length:Int)))))-1))>2000))).bind fun s76j3 =>
   if s76j3 then
    some ((au.mk ([])),(-1),[],6)
   else
    (ez p0.ag).bind fun r23 =>
    (aS (xi p1 p2 p3) (0,[],r23)).bind fun q=>match q with
    | (l10dx,l1000014dx) =>
     (bI l10dx).bind fun r43 =>
     (aS (xj) (r43,l1000014dx)).bind fun q=>match q with
     | (l16ex,l1000014ex) =>
      (P.idx l16ex 0).bind fun x89 =>
      some ((au.mk l1000014ex),x89,l10dx,0)
  | (.inr rb) =>
   some rb
def iG (p0:(List Int)) (p1:(List Int)):(Int)→Option ((Int)⊕((Unit)⊕(Bool)))
 | s5a =>
  if decide (s5a<(p0.length:Int)) then
   (P.idx p0 s5a).bind fun x8 =>
   (P.idx p1 s5a).bind fun x9 =>
   if (x8 != x9) then
    some (.inr (.inr false))
   else
    some (.inl (IntKind.i64.wrap (s5a+1)))
  else
   some (.inr (.inl ()))
def ey (p0:(List Int)) (p1:(List Int)):Option (Bool) :=
 if ((p0.length:Int) != (p1.length:Int)) then
  some false
 else
  (aS (iG p0 p1) 0).bind fun q=>match q with
  | (.inl _) =>
   some true
  | (.inr ra) =>
   some ra
def vl (p0:(List Int)):(Int)→Option ((Int)⊕((Int)))
 | s3a =>
  if decide (s3a>0) then
   (P.idx p0 (IntKind.i64.wrap (s3a-1))).bind fun x6 =>
   if (x6==0) then
    some (.inl (IntKind.i64.wrap (s3a-1)))
   else
    some (.inr s3a)
  else
   some (.inr s3a)
def gm (p0:(List Int)):Option ((List Int)) :=
 (aS (vl p0) (p0.length:Int)).bind fun s3ax =>
 (E1 p0 0 s3ax).bind fun x8 =>
 (ik 8 [] x8).bind fun _ =>
 some x8
def fi (p0:Int) (p1:(List Int)):Option (aw) :=
 (gm p1).bind fun r1 =>
 if ((r1.length:Int)==0) then
  some (aw.mk 0 ([]))
 else
  some (aw.mk p0 r1)
def wb:(Int×(List Int))→Option ((Int×(List Int))⊕(((List Int))))
 | (s0b,l4b) =>
  if (s0b != 0) then
   (wD .i64 s0b 1048576).bind fun x17 =>
   if decide (x17<0) then
    (ik 8 l4b [IntKind.i64.wrap (0-x17)]).bind fun x20 =>
    (z6 .i64 s0b 1048576).bind fun x22 =>
    some (.inl (x22,x20))
   else
    (ik 8 l4b [x17]).bind fun x24 =>
    (z6 .i64 s0b 1048576).bind fun x26 =>
    some (.inl (x26,x24))
  else
   some (.inr l4b)
def sW (p0:Int):Option (aw) :=
 if (p0==0) then
  some (aw.mk 0 ([]))
 else
  (if decide (p0<0) then
   some (-1)
  else
   some 1).bind fun s3j1 =>
  (aS (wb) (p0,[])).bind fun l4bx =>
  (fi s3j1 l4bx).bind fun r28 =>
  some r28
def ow (p0:aw):(Int)→Option ((Int)⊕((Unit)⊕(Bool)))
 | s3a =>
  if decide (s3a<(p0.aa.length:Int)) then
   (P.idx p0.aa s3a).bind fun x7 =>
   if decide (x7<0) then
    some (.inr (.inr false))
   else
    if decide (x7≥1048576) then
     some (.inr (.inr false))
    else
     some (.inl (IntKind.i64.wrap (s3a+1)))
  else
   some (.inr (.inl ()))
def du (p0:aw):Option (Bool) :=
 (aS (ow p0) 0).bind fun q=>match q with
 | (.inl _) =>
  (if decide (p0.ah<(-1)) then
   some true
  else
   if decide (p0.ah>1) then
    some true
   else
    some (!(((p0.aa.length:Int)==0)==(p0.ah==0)))).bind fun s44j2 =>
  if s44j2 then
   some false
  else
   if ((p0.aa.length:Int)==0) then
    some true
   else
    (P.idx p0.aa (IntKind.i64.wrap ((p0.aa.length:Int)-1))).bind fun x13 =>
    some (x13 != 0)
 | (.inr ra) =>
  some ra
def qD (p0:aw):Option (aw) :=
 (du p0).bind fun r1 =>
 if (!r1) then
  some (aw.mk 0 ([]))
 else
  (fi (IntKind.i64.wrap (0-p0.ah)) p0.aa).bind fun r3 =>
  some r3
def fT (p0:(List Int)) (p1:Int):Option (Int) :=
 if decide (p1<(p0.length:Int)) then
  (P.idx p0 p1).bind fun x2 =>
  some x2
 else
  some 0
def oA (p0:(List Int)) (p1:(List Int)) (s6a:Int):(Int×Int×(List Int))→Option ((Int×Int×(List Int))⊕(((List Int))))
 | (s7e,s8e,l5e) =>
  (if decide (s8e<(p1.length:Int)) then
   some true
  else
   some (decide (s7e>0))).bind fun s29j7 =>
  if s29j7 then
   (P.idx l5e (IntKind.i64.wrap (s6a+s8e))).bind fun x43 =>
   (P.idx p0 s6a).bind fun x44 =>
   (fT p1 s8e).bind fun r45 =>
   (wD .i64 (IntKind.i64.wrap ((IntKind.i64.wrap (x43+(IntKind.i64.wrap (x44*r45))))+s7e)) 1048576).bind fun x46 =>
   (z6 .i64 (IntKind.i64.wrap ((IntKind.i64.wrap (x43+(IntKind.i64.wrap (x44*r45))))+s7e)) 1048576).bind fun x49 =>
   some (.inl (x49,IntKind.i64.wrap (s8e+1),(l5e.set (IntKind.i64.wrap (s6a+s8e)).toNat x46)))
  else
   some (.inr l5e)
def oz (p0:(List Int)) (p1:(List Int)):(Int×(List Int))→Option ((Int×(List Int))⊕(((List Int))))
 | (s6a,l5a) =>
  if decide (s6a<(p0.length:Int)) then
   (aS (oA p0 p1 s6a) (0,0,l5a)).bind fun l5ex =>
   some (.inl (IntKind.i64.wrap (s6a+1),l5ex))
  else
   some (.inr l5a)
def jv (p0:(List Int)) (p1:(List Int)):Option ((List Int)) :=
 (MS 8 (IntKind.i64.wrap ((p0.length:Int)+(p1.length:Int))) (IntKind.i64.wrap ((p0.length:Int)+(p1.length:Int))) 0).bind fun x1 =>
 (aS (oz p0 p1) (0,x1)).bind fun l5ax =>
 (gm l5ax).bind fun r52 =>
 some r52
def qF (p0:(List Int)) (p1:(List Int)):(Int)→Option ((Int)⊕((Unit)⊕(Bool)))
 | s5a =>
  if decide (s5a≥0) then
   (fT p0 s5a).bind fun r7 =>
   (fT p1 s5a).bind fun r8 =>
   if (r7 != r8) then
    some (.inr (.inr (decide (r7<r8))))
   else
    some (.inl (IntKind.i64.wrap (s5a-1)))
  else
   some (.inr (.inl ()))
def nd (p0:(List Int)) (p1:(List Int)):Option (Bool) :=
 (aS (qF p0 p1) (IntKind.i64.wrap ((if (p1.length:Int)>(p0.length:Int) then (p1.length:Int) else (p0.length:Int))-1))).bind fun q=>match q with
 | (.inl _) =>
  some false
 | (.inr ra) =>
  some ra
def ox (p0:(List Int)) (p1:(List Int)):(Int×Int×(List Int))→Option ((Int×Int×(List Int))⊕(((List Int))))
 | (s6a,s7a,l5a) =>
  if decide (s7a<(p0.length:Int)) then
   (P.idx p0 s7a).bind fun x11 =>
   (fT p1 s7a).bind fun r12 =>
   if decide ((IntKind.i64.wrap ((IntKind.i64.wrap (x11-r12))-s6a))<0) then
    (ik 8 l5a [IntKind.i64.wrap ((IntKind.i64.wrap ((IntKind.i64.wrap (x11-r12))-s6a))+1048576)]).bind fun x14 =>
    some (.inl (1,IntKind.i64.wrap (s7a+1),x14))
   else
    (ik 8 l5a [IntKind.i64.wrap ((IntKind.i64.wrap (x11-r12))-s6a)]).bind fun x16 =>
    some (.inl (0,IntKind.i64.wrap (s7a+1),x16))
  else
   some (.inr l5a)
def kB (p0:(List Int)) (p1:(List Int)):Option ((List Int)) :=
 (aS (ox p0 p1) (0,0,[])).bind fun l5ax =>
 (gm l5ax).bind fun r18 =>
 some r18
def ng (p1:(List Int)) (r34:(List Int)):(Int×Int)→Option ((Int×Int)⊕((Int)))
 | (s9c,s10c) =>
  if decide ((IntKind.i64.wrap (s10c-s9c))>1) then
   (z6 .i64 (IntKind.i64.wrap (s9c+s10c)) 2).bind fun x44 =>
   (jv p1 ([x44])).bind fun r47 =>
   (nd r34 r47).bind fun r48 =>
   if r48 then
    some (.inl (s9c,x44))
   else
    some (.inl (x44,s10c))
  else
   some (.inr s9c)
def qG (p0:(List Int)) (p1:(List Int)):((List Int)×Int×(List Int))→Option (((List Int)×Int×(List Int))⊕(((List Int)×(List Int))))
 | (s7a,s8a,l6a) =>
  if decide (s8a≥0) then
   (P.idx p0 s8a).bind fun x31 =>
   (ik 8 [x31] s7a).bind fun x32 =>
   (gm x32).bind fun r34 =>
   (aS (ng p1 r34) (0,1048576)).bind fun s9cx =>
   (P.idx l6a s8a).bind fun x50 =>
   (gm ([s9cx])).bind fun r53 =>
   (jv p1 r53).bind fun r54 =>
   (kB r34 r54).bind fun r55 =>
   some (.inl (r55,IntKind.i64.wrap (s8a-1),(l6a.set (s8a).toNat s9cx)))
  else
   some (.inr (s7a,l6a))
def nf (p0:(List Int)) (p1:(List Int)):Option ((List Int)×(List Int)) :=
 (MS 8 (p0.length:Int) (p0.length:Int) 0).bind fun x1 =>
 (aS (qG p0 p1) ([],IntKind.i64.wrap ((p0.length:Int)-1),x1)).bind fun q=>match q with
 | (s7ax,l6ax) =>
  (gm l6ax).bind fun r56 =>
  some (r56,s7ax)
def pj:((List Int)×(List Int))→Option (((List Int)×(List Int))⊕(((List Int))))
 | (s6b,s7b) =>
  if decide ((s7b.length:Int)>0) then
   (nf s6b s7b).bind fun r8 =>
   some (.inl (s7b,r8.2))
  else
   some (.inr s6b)
def ov (p0:aw) (p1:aw):Option (aw×Int) :=
 (du p0).bind fun r1 =>
 (if (!r1) then
  some true
 else
  (du p1).bind fun r11 =>
  some (!r11)).bind fun s17j1 =>
 if s17j1 then
  some ((aw.mk 0 ([])),1)
 else
  (aS (pj) (p0.aa,p1.aa)).bind fun s6bx =>
  (fi 1 s6bx).bind fun r9 =>
  some (r9,0)
def BB (p0:(List Int)) (p1:(List Int)):(Int×Int×(List Int))→Option ((Int×Int×(List Int))⊕(((List Int))))
 | (s6a,s7a,l5a) =>
  (if decide (s7a<(p0.length:Int)) then
   some true
  else
   if decide (s7a<(p1.length:Int)) then
    some true
   else
    some (decide (s6a>0))).bind fun s22j3 =>
  if s22j3 then
   (fT p0 s7a).bind fun r16 =>
   (fT p1 s7a).bind fun r17 =>
   (wD .i64 (IntKind.i64.wrap ((IntKind.i64.wrap (r16+r17))+s6a)) 1048576).bind fun x18 =>
   (ik 8 l5a [x18]).bind fun x20 =>
   (z6 .i64 (IntKind.i64.wrap ((IntKind.i64.wrap (r16+r17))+s6a)) 1048576).bind fun x22 =>
   some (.inl (x22,IntKind.i64.wrap (s7a+1),x20))
  else
   some (.inr l5a)
def vk (p0:(List Int)) (p1:(List Int)):Option ((List Int)) :=
 (aS (BB p0 p1) (0,0,[])).bind fun l5ax =>
 (gm l5ax).bind fun r26 =>
 some r26
def mK (p0:aw) (p1:aw):Option (aw×aw×Int) :=
 (du p0).bind fun r1 =>
 (if (!r1) then
  some true
 else
  (du p1).bind fun r17 =>
  some (!r17)).bind fun s16j1 =>
 if s16j1 then
  some ((aw.mk 0 ([])),(aw.mk 0 ([])),1)
 else
  if (p1.ah==0) then
   some ((aw.mk 0 ([])),(aw.mk 0 ([])),15)
  else
   (nf p0.aa p1.aa).bind fun r5 =>
   (if decide ((IntKind.i64.wrap (p0.ah*p1.ah))≥0) then
    some true
   else
    some ((r5.2.length:Int)==0)).bind fun s42j2 =>
   if s42j2 then
    (fi (IntKind.i64.wrap (p0.ah*p1.ah)) r5.1).bind fun r8 =>
    (fi p0.ah r5.2).bind fun r9 =>
    some (r8,r9,0)
   else
    (vk r5.1 ([1])).bind fun r11 =>
    (fi (-1) r11).bind fun r12 =>
    (kB p1.aa r5.2).bind fun r13 =>
    (fi p1.ah r13).bind fun r14 =>
    some (r12,r14,0)
def sX (p0:aw) (p1:aw):Option (aQ×Int) :=
 (du p0).bind fun r1 =>
 (if (!r1) then
  some true
 else
  (du p1).bind fun r13 =>
  some (!r13)).bind fun s21j1 =>
 if s21j1 then
  some ((aQ.mk (aw.mk 0 ([])) (aw.mk 0 ([]))),1)
 else
  if (p1.ah==0) then
   some ((aQ.mk (aw.mk 0 ([])) (aw.mk 0 ([]))),15)
  else
   (if decide (p1.ah<0) then
    (qD p0).bind fun r10 =>
    (qD p1).bind fun r11 =>
    some (r10.ah,r10.aa,r11.ah,r11.aa)
   else
    some (p0.ah,p0.aa,p1.ah,p1.aa)).bind fun q=>match q with
   | (r2_0j2,r2_1j2,r3_0j2,r3_1j2) =>
    (ov (aw.mk r2_0j2 r2_1j2) (aw.mk r3_0j2 r3_1j2)).bind fun r6 =>
    (mK (aw.mk r2_0j2 r2_1j2) r6.1).bind fun r7 =>
    (mK (aw.mk r3_0j2 r3_1j2) r6.1).bind fun r8 =>
    some ((aQ.mk r7.1 r8.1),0)
def xQ (p0:Int) (p1:Int):Option (aQ×Int) :=
 (sW p0).bind fun r1 =>
 (sW p1).bind fun r2 =>
 (sX r1 r2).bind fun r3 =>
 some (r3.1,r3.2)
def oB (p0:Int):Option (aQ) :=
 (xQ p0 1).bind fun r1 =>
 some r1.1
def gZ (p0:Int) (p1:Int):Option (dt) :=
 (oB p0).bind fun r1 =>
 (oB p1).bind fun r2 =>
 some (dt.mk r1 r2)
def nO (p0:aw):(Int)→Option ((Int)⊕((Unit)⊕(Bool)))
 | s12a =>
  if decide (s12a<(p0.aa.length:Int)) then
   (P.idx p0.aa s12a).bind fun x7 =>
   if decide (x7<0) then
    some (.inr (.inr false))
   else
    if decide (x7>1048575) then
     some (.inr (.inr false))
    else
     some (.inl (IntKind.i64.wrap (s12a+1)))
  else
   some (.inr (.inl ()))
def eD (p0:aw):Option (Bool) :=
 (aS (nO p0) 0).bind fun q=>match q with
 | (.inl _) =>
  if ((p0.aa.length:Int)==0) then
   some (p0.ah==0)
  else
   if (p0.ah==1) then
    (P.idx p0.aa (IntKind.i64.wrap ((p0.aa.length:Int)-1))).bind fun x12 =>
    some (x12 != 0)
   else
    if (p0.ah==(-1)) then
     (P.idx p0.aa (IntKind.i64.wrap ((p0.aa.length:Int)-1))).bind fun x14 =>
     some (x14 != 0)
    else
     some false
 | (.inr ra) =>
  some ra
def fW (p0:Bool) (p1:aw):Option (aw×Int) :=
 if (!p0) then
  some ((aw.mk 0 ([])),1)
 else
  some (p1,0)
def jo (p0:Int):Option (Bool) :=
 some (p0 != p0)
def fY (p0:Int) (p1:Int):Option (Int) :=
 (jo p0).bind fun r1 =>
 (jo p1).bind fun r2 =>
 if r1 then
  if r2 then
   some 0
  else
   some (-1)
 else
  if r2 then
   some 1
  else
   if decide (p0<p1) then
    some (-1)
   else
    if decide (p0>p1) then
     some 1
    else
     some 0
def k9 (p0:(List Int)) (p1:(List Int)):(Int)→Option ((Int)⊕((Unit)⊕(Int)))
 | s5a =>
  if decide (s5a≥0) then
   (P.idx p0 s5a).bind fun x10 =>
   (P.idx p1 s5a).bind fun x11 =>
   if (x10 != x11) then
    (fY x10 x11).bind fun r13 =>
    some (.inr (.inr r13))
   else
    some (.inl (IntKind.i64.wrap (s5a-1)))
  else
   some (.inr (.inl ()))
def fw (p0:(List Int)) (p1:(List Int)):Option (Int) :=
 if ((p0.length:Int) != (p1.length:Int)) then
  (fY (p0.length:Int) (p1.length:Int)).bind fun r2 =>
  some r2
 else
  (aS (k9 p0 p1) (IntKind.i64.wrap ((p0.length:Int)-1))).bind fun q=>match q with
  | (.inl _) =>
   some 0
  | (.inr ra) =>
   some ra
def kq (p0:(List Int)):(Int)→Option ((Int)⊕((Int)))
 | s3a =>
  if decide (s3a>0) then
   (P.idx p0 (IntKind.i64.wrap (s3a-1))).bind fun x6 =>
   if (x6==0) then
    some (.inl (IntKind.i64.wrap (s3a-1)))
   else
    some (.inr s3a)
  else
   some (.inr s3a)
def eL (p0:(List Int)):Option ((List Int)) :=
 (aS (kq p0) (p0.length:Int)).bind fun s3ax =>
 (E1 p0 0 s3ax).bind fun x8 =>
 some x8
def nQ (p0:(List Int)) (p1:Int):(Int×Int×(List Int))→Option ((Int×Int×(List Int))⊕((Int×(List Int))))
 | (s7a,s8a,l6a) =>
  if decide (s8a≥0) then
   (Ge .i64 s7a 20).bind fun x15 =>
   (P.idx p0 s8a).bind fun x17 =>
   (z6 .i64 (oN .or .i64 x15 x17) p1).bind fun x18 =>
   (P.idx l6a s8a).bind fun x20 =>
   (wD .i64 (oN .or .i64 x15 x17) p1).bind fun x22 =>
   some (.inl (x22,IntKind.i64.wrap (s8a-1),(l6a.set (s8a).toNat x18)))
  else
   some (.inr (s7a,l6a))
def kp (p0:(List Int)) (p1:Int):Option ((List Int)×Int) :=
 (MS 8 (p0.length:Int) (p0.length:Int) 0).bind fun x1 =>
 (aS (nQ p0 p1) (0,IntKind.i64.wrap ((p0.length:Int)-1),x1)).bind fun q=>match q with
 | (s7ax,l6ax) =>
  (eL l6ax).bind fun r24 =>
  some (r24,s7ax)
def sh (p1:(List Int)) (s20a:Int) (x22:Int):(Int×Int×(List Int))→Option ((Int×Int×(List Int))⊕((Int×(List Int))))
 | (s8c,s27c,l5c) =>
  if decide (s27c<(p1.length:Int)) then
   (P.idx p1 s27c).bind fun x31 =>
   (P.idx l5c (IntKind.i64.wrap (s20a+s27c))).bind fun x32 =>
   (AH .i64 (IntKind.i64.wrap ((IntKind.i64.wrap (x32+(IntKind.i64.wrap (x22*x31))))+s8c)) 20).bind fun x33 =>
   some (.inl (x33,IntKind.i64.wrap (s27c+1),(l5c.set (IntKind.i64.wrap (s20a+s27c)).toNat (oN .and .i64 (IntKind.i64.wrap ((IntKind.i64.wrap (x32+(IntKind.i64.wrap (x22*x31))))+s8c)) 1048575))))
  else
   some (.inr (s8c,l5c))
def sg (p0:(List Int)) (p1:(List Int)):(Int×(List Int))→Option ((Int×(List Int))⊕(((List Int))))
 | (s20a,l5a) =>
  if decide (s20a<(p0.length:Int)) then
   (P.idx p0 s20a).bind fun x22 =>
   (aS (sh p1 s20a x22) (0,0,l5a)).bind fun q=>match q with
   | (s8cx,l5cx) =>
    (P.idx l5cx (IntKind.i64.wrap (s20a+(p1.length:Int)))).bind fun x36 =>
    some (.inl (IntKind.i64.wrap (s20a+1),(l5cx.set (IntKind.i64.wrap (s20a+(p1.length:Int))).toNat (IntKind.i64.wrap (x36+s8cx)))))
  else
   some (.inr l5a)
def nP (p0:(List Int)) (p1:(List Int)):Option ((List Int)) :=
 (MS 8 (IntKind.i64.wrap ((p0.length:Int)+(p1.length:Int))) (IntKind.i64.wrap ((p0.length:Int)+(p1.length:Int))) 0).bind fun x1 =>
 (aS (sg p0 p1) (0,x1)).bind fun l5ax =>
 (eL l5ax).bind fun r39 =>
 some r39
def jV (p0:(List Int)) (p1:(List Int)) (p2:Int):(Int×Int×(List Int))→Option ((Int×Int×(List Int))⊕((Int×(List Int))))
 | (s7a,s14a,l0a) =>
  if decide (s14a<((p0).length:Int)) then
   (P.idx l0a s14a).bind fun x11 =>
   (if decide (s14a<(p1.length:Int)) then
    (P.idx p1 s14a).bind fun x17 =>
    some (IntKind.i64.wrap ((IntKind.i64.wrap (x11-s7a))-(IntKind.i64.wrap (p2*x17))))
   else
    some (IntKind.i64.wrap (x11-s7a))).bind fun s9j3 =>
   (AH .i64 s9j3 20).bind fun x14 =>
   some (.inl (IntKind.i64.wrap (0-x14),IntKind.i64.wrap (s14a+1),(l0a.set (s14a).toNat (oN .and .i64 s9j3 1048575))))
  else
   some (.inr (s7a,l0a))
def jW (p1:(List Int)) (l0ax:(List Int)):(Int×Int×(List Int))→Option ((Int×Int×(List Int))⊕(((List Int))))
 | (s10d,s49d,l0d) =>
  if decide (s49d<((l0ax).length:Int)) then
   (P.idx l0d s49d).bind fun x29 =>
   (if decide (s49d<(p1.length:Int)) then
    (P.idx p1 s49d).bind fun x35 =>
    some (IntKind.i64.wrap ((IntKind.i64.wrap (s10d+x29))+x35))
   else
    some (IntKind.i64.wrap (s10d+x29))).bind fun s10j6 =>
   (AH .i64 s10j6 20).bind fun x32 =>
   some (.inl (x32,IntKind.i64.wrap (s49d+1),(l0d.set (s49d).toNat (oN .and .i64 s10j6 1048575))))
  else
   some (.inr l0d)
def oM (p0:(List Int)) (p1:(List Int)) (p2:Int):Option ((List Int)×(Int)) :=
 (aS (jV p0 p1 p2) (0,0,p0)).bind fun q=>match q with
 | (s7ax,l0ax) =>
  if (s7ax==0) then
   some (l0ax,p2)
  else
   (aS (jW p1 l0ax) (0,0,l0ax)).bind fun l0dx =>
   some (l0dx,IntKind.i64.wrap (p2-1))
def fj (p0:(List Int)) (p1:(List Int)) (p2:Int):Option ((List Int)×(Int)):=(oM p0 p1 p2).bind fun r=>if r.1.length=p0.length then some r else none
theorem Al {p0:(List Int)} {p1:(List Int)} {p2:Int} {r:(List Int)×(Int)} (h:fj p0 p1 p2=some r):r.1.length=p0.length:=by
 unfold fj at h
 obtain⟨q,hq,h⟩:=ae h
 split at h
 ·cases h;assumption
 ·cases h
def sd (p1:(List Int)):(Int)→Option ((Int)⊕((Int)))
 | s8a =>
  (P.idx p1 (IntKind.i64.wrap ((p1.length:Int)-1))).bind fun x12 =>
  if decide ((IntKind.i64.wrap (x12*s8a))<524288) then
   some (.inl (IntKind.i64.wrap (s8a*2)))
  else
   some (.inr s8a)
def sf (r19:(List Int)) (s13c:Int) (l9c:(List Int)) (x64:Int):(Int×Int)→Option ((Int×Int)⊕((Int)))
 | (s15g,s16g) =>
  (if decide (s15g≥1048576) then
   some true
  else
   if decide (s16g<1048576) then
    (P.idx r19 (IntKind.i64.wrap (((r19).length:Int)-2))).bind fun x83 =>
    (Ge .i64 s16g 20).bind fun x84 =>
    (P.idx l9c (IntKind.i64.wrap ((IntKind.i64.wrap (s13c+((r19).length:Int)))-2))).bind fun x86 =>
    some (decide ((IntKind.i64.wrap (s15g*x83))>(oN .or .i64 x84 x86)))
   else
    some false).bind fun s137j9 =>
  if s137j9 then
   some (.inl (IntKind.i64.wrap (s15g-1),IntKind.i64.wrap (s16g+x64)))
  else
   some (.inr s15g)
def se (r19:(List Int)):(Int×(List Int)×(List Int))→Option ((Int×(List Int)×(List Int))⊕(((List Int)×(List Int))))
 | (s13c,l9c,l12c) =>
  if decide (s13c≥0) then
   (P.idx l9c (IntKind.i64.wrap (s13c+((r19).length:Int)))).bind fun x60 =>
   (Ge .i64 x60 20).bind fun x61 =>
   (P.idx l9c (IntKind.i64.wrap ((IntKind.i64.wrap (s13c+((r19).length:Int)))-1))).bind fun x63 =>
   (P.idx r19 (IntKind.i64.wrap (((r19).length:Int)-1))).bind fun x64 =>
   (z6 .i64 (oN .or .i64 x61 x63) x64).bind fun x65 =>
   (wD .i64 (oN .or .i64 x61 x63) x64).bind fun x67 =>
   (aS (sf r19 s13c l9c x64) (x65,x67)).bind fun s15gx =>
   (E1 l9c s13c (IntKind.i64.wrap ((IntKind.i64.wrap (s13c+((r19).length:Int)))+1))).bind fun x87 =>
   (fj x87 r19 s15gx).bind fun r90 =>
   (P.idx l12c s13c).bind fun x92 =>
   some (.inl (IntKind.i64.wrap (s13c-1),(l9c.take (s13c).toNat++(r90.1++l9c.drop (IntKind.i64.wrap ((IntKind.i64.wrap (s13c+((r19).length:Int)))+1)).toNat)),(l12c.set (s13c).toNat r90.2)))
  else
   some (.inr (l9c,l12c))
def sc (p0:(List Int)) (p1:(List Int)):Option ((List Int)×(List Int)) :=
 (fw p0 p1).bind fun r1 =>
 if decide (r1<0) then
  (bI p0).bind fun r3 =>
  some ([],r3)
 else
  if ((p1.length:Int)==1) then
   (P.idx p1 0).bind fun x5 =>
   (kp p0 x5).bind fun r6 =>
   (eL ([r6.2])).bind fun r8 =>
   some (r6.1,r8)
  else
   (aS (sd p1) 1).bind fun s8ax =>
   (nP p0 ([s8ax])).bind fun r15 =>
   (ik 8 r15 [0]).bind fun x16 =>
   (nP p1 ([s8ax])).bind fun r19 =>
   (if (((x16).length:Int)==(p0.length:Int)) then
    (ik 8 x16 [0]).bind fun x98 =>
    some x98
   else
    some x16).bind fun l9j2 =>
   (MS 8 (IntKind.i64.wrap (((l9j2).length:Int)-((r19).length:Int))) (IntKind.i64.wrap (((l9j2).length:Int)-((r19).length:Int))) 0).bind fun x21 =>
   (aS (se r19) (IntKind.i64.wrap (((x21).length:Int)-1),l9j2,x21)).bind fun q=>match q with
   | (l9cx,l12cx) =>
    (eL l9cx).bind fun r94 =>
    (kp r94 s8ax).bind fun r95 =>
    (eL l12cx).bind fun r96 =>
    some (r96,r95.1)
def fK (p0:Int) (p1:(List Int)):Option (aw) :=
 (eL p1).bind fun r1 =>
 if ((r1.length:Int)==0) then
  some (aw.mk 0 ([]))
 else
  some (aw.mk p0 r1)
def oL:((List Int)×(List Int))→Option (((List Int)×(List Int))⊕(((List Int))))
 | (s6b,s7b) =>
  if decide ((s7b.length:Int)>0) then
   (sc s6b s7b).bind fun r11 =>
   some (.inl (s7b,r11.2))
  else
   some (.inr s6b)
def rY (p0:aw) (p1:aw):Option (aw×Int) :=
 (eD p0).bind fun r1 =>
 (if (!r1) then
  some true
 else
  (eD p1).bind fun r16 =>
  some (!r16)).bind fun s17j1 =>
 if s17j1 then
  (fW false (aw.mk 0 ([]))).bind fun r5 =>
  some (r5.1,r5.2)
 else
  (bI p0.aa).bind fun r6 =>
  (aS (oL) (r6,p1.aa)).bind fun s6bx =>
  (bI s6bx).bind fun r12 =>
  (fK 1 r12).bind fun r13 =>
  (fW true r13).bind fun r14 =>
  some (r14.1,r14.2)
def sa (p0:aw):(Int×Int)→Option ((Int×Int)⊕((Int)⊕(Int×Bool)))
 | (s4b,s19b) =>
  if decide (s19b<(p0.aa.length:Int)) then
   (P.idx p0.aa s19b).bind fun x13 =>
   (if (s19b==3) then
    some (decide (x13>8))
   else
    some false).bind fun s29j4 =>
   if s29j4 then
    some (.inr (.inr (0,false)))
   else
    (Ge .u64 (IntKind.u64.wrap x13) (IntKind.i64.wrap (20*s19b))).bind fun x16 =>
    some (.inl (oN .or .u64 s4b x16,IntKind.i64.wrap (s19b+1)))
  else
   some (.inr (.inl s4b))
def rZ (p0:aw):Option (Int×Bool) :=
 (eD p0).bind fun r1 =>
 (if (!r1) then
  some true
 else
  some (decide ((p0.aa.length:Int)>4))).bind fun s15j1 =>
 if s15j1 then
  some (0,false)
 else
  (aS (sa p0) (0,0)).bind fun q=>match q with
  | (.inl s4bx) =>
   (if decide (p0.ah<0) then
    some (decide (s4bx≤9223372036854775808))
   else
    some false).bind fun s38j5 =>
   if s38j5 then
    some (IntKind.i64.wrap (IntKind.u64.wrap (0-s4bx)),true)
   else
    if decide (p0.ah≥0) then
     if decide (s4bx<9223372036854775808) then
      some (IntKind.i64.wrap s4bx,true)
     else
      some (0,false)
    else
     some (0,false)
  | (.inr rb) =>
   some rb
def o0 (p0:aw):Option (Bool) :=
 (rZ p0).bind fun r1 =>
 if r1.2 then
  some (r1.1==1)
 else
  some false
def fe (p0:aQ):Option (Bool) :=
 (eD p0.cn).bind fun r1 =>
 (if (!r1) then
  some true
 else
  (eD p0.cl).bind fun r8 =>
  if (!r8) then
   some true
  else
   some (p0.cl.ah != 1)).bind fun s20j1 =>
 if s20j1 then
  some false
 else
  (rY p0.cn p0.cl).bind fun r4 =>
  if (r4.2==0) then
   (o0 r4.1).bind fun r6 =>
   some r6
  else
   some false
def sb (p0:aw) (p1:aw):Option (aw×Int) :=
 (eD p0).bind fun r1 =>
 (if (!r1) then
  some true
 else
  (eD p1).bind fun r10 =>
  some (!r10)).bind fun s13j1 =>
 if s13j1 then
  (fW false (aw.mk 0 ([]))).bind fun r5 =>
  some (r5.1,r5.2)
 else
  (nP p0.aa p1.aa).bind fun r6 =>
  (fK (IntKind.i64.wrap (p0.ah*p1.ah)) r6).bind fun r7 =>
  (fW true r7).bind fun r8 =>
  some (r8.1,r8.2)
def gz (p0:aw) (p1:aw):Option (aw) :=
 (sb p0 p1).bind fun r1 =>
 some r1.1
def jc (p0:aw) (p1:aw):Option (Int) :=
 (eD p0).bind fun r1 =>
 (if (!r1) then
  some true
 else
  (eD p1).bind fun r8 =>
  some (!r8)).bind fun s12j1 =>
 if s12j1 then
  some 0
 else
  if (p0.ah != p1.ah) then
   (fY p0.ah p1.ah).bind fun r5 =>
   some r5
  else
   (fw p0.aa p1.aa).bind fun r6 =>
   some (IntKind.i64.wrap (p0.ah*r6))
def fm (p0:aQ) (p1:aQ):Option (Int) :=
 (fe p0).bind fun r1 =>
 (if (!r1) then
  some true
 else
  (fe p1).bind fun r8 =>
  some (!r8)).bind fun s12j1 =>
 if s12j1 then
  some 0
 else
  (gz p0.cn p1.cl).bind fun r4 =>
  (gz p1.cn p0.cl).bind fun r5 =>
  (jc r4 r5).bind fun r6 =>
  some r6
def gC (p0:dt):Option (Bool) :=
 (fe p0.bq).bind fun r1 =>
 if r1 then
  (fe p0.aT).bind fun r3 =>
  if r3 then
   (fm p0.bq p0.aT).bind fun r5 =>
   some (decide (r5≤0))
  else
   some false
 else
  some false
def iH (p0:az):Option (Bool) :=
 (gC p0.bz).bind fun r1 =>
 some (!r1)
def iF (p0:Int):Option (Int) :=
 (if decide (p0≥4294967296) then
  (AH .u64 p0 32).bind fun x14 =>
  some (x14,32)
 else
  some (p0,0)).bind fun q=>match q with
 | (s0j1,s2j1) =>
  (if decide (s0j1≥65536) then
   (AH .u64 s0j1 16).bind fun x11 =>
   some (x11,IntKind.i64.wrap (s2j1+16))
  else
   some (s0j1,s2j1)).bind fun q=>match q with
  | (s0j2,s2j2) =>
   if decide (s0j2≥256) then
    (AH .u64 s0j2 8).bind fun x4 =>
    (P.Xy ZL (IntKind.u8.wrap x4)).bind fun x6 =>
    some (IntKind.i64.wrap ((IntKind.i64.wrap (s2j2+8))+(IntKind.i64.wrap x6)))
   else
    (P.Xy ZL (IntKind.u8.wrap s0j2)).bind fun x8 =>
    some (IntKind.i64.wrap (s2j2+(IntKind.i64.wrap x8)))
def jM (p0:Int):Option (Int) :=
 (iF p0).bind fun r1 =>
 some r1
def uz (p0:Int) (p1:Int):Option (Bool) :=
 (jo p0).bind fun r1 =>
 if r1 then
  (jo p1).bind fun r3 =>
  if (!r3) then
   some true
  else
   some (decide (p0<p1))
 else
  some (decide (p0<p1))
def gr (p1:Int):(Int×(List Int))→Option ((Int×(List Int))⊕(((List Int))))
 | (s7e,l0e) =>
  (if decide (s7e>p1) then
   (P.idx l0e s7e).bind fun x47 =>
   (P.idx l0e (IntKind.i64.wrap (s7e-1))).bind fun x48 =>
   (uz x47 x48).bind fun r49 =>
   some r49
  else
   some false).bind fun s30j7 =>
  if s30j7 then
   (P.idx l0e (IntKind.i64.wrap (s7e-1))).bind fun x41 =>
   (P.idx l0e s7e).bind fun x42 =>
   (P.idx (l0e.set (s7e).toNat x41) (IntKind.i64.wrap (s7e-1))).bind fun x44 =>
   some (.inl (IntKind.i64.wrap (s7e-1),((l0e.set (s7e).toNat x41).set (IntKind.i64.wrap (s7e-1)).toNat x42)))
  else
   some (.inr l0e)
def gq (p1:Int) (p2:Int):(Int×(List Int))→Option ((Int×(List Int))⊕(((List Int))))
 | (s6a,l0a) =>
  if decide (s6a<p2) then
   (aS (gr p1) (s6a,l0a)).bind fun l0ex =>
   some (.inl (IntKind.i64.wrap (s6a+1),l0ex))
  else
   some (.inr l0a)
def gG (p0:(List Int)) (p1:Int) (p2:Int):Option ((List Int)×(Unit)) :=
 (aS (gq p1 p2) (IntKind.i64.wrap (p1+1),p0)).bind fun l0ax =>
 some (l0ax,())
def b8 (p0:(List Int)) (p1:Int) (p2:Int):Option ((List Int)×(Unit)):=(gG p0 p1 p2).bind fun r=>if r.1.length=p0.length then some r else none
theorem kP {p0:(List Int)} {p1:Int} {p2:Int} {r:(List Int)×(Unit)} (h:b8 p0 p1 p2=some r):r.1.length=p0.length:=by
 unfold b8 at h
 obtain⟨q,hq,h⟩:=ae h
 split at h
 ·cases h;assumption
 ·cases h
def ji (p0:(List Int)) (p1:Int) (p2:Int) (p3:Int):(Unit)→Option ((Unit)⊕(((List Int)×(Unit))))
 | _ =>
  if decide ((IntKind.i64.wrap (p2-p1))≤12) then
   (b8 p0 p1 p2).bind fun r9 =>
   some (.inr (r9.1,()))
  else
   if (p3==0) then
    none
   else
    none
def jC (p0:(List Int)) (p1:Int) (p2:Int) (p3:Int):Option ((List Int)×(Unit)) :=
 (aS (ji p0 p1 p2 p3) ()).bind fun ra =>
 some ra
def cL (p0:(List Int)) (p1:Int) (p2:Int) (p3:Int):Option ((List Int)×(Unit)):=(jC p0 p1 p2 p3).bind fun r=>if r.1.length=p0.length then some r else none
theorem oc {p0:(List Int)} {p1:Int} {p2:Int} {p3:Int} {r:(List Int)×(Unit)} (h:cL p0 p1 p2 p3=some r):r.1.length=p0.length:=by
 unfold cL at h
 obtain⟨q,hq,h⟩:=ae h
 split at h
 ·cases h;assumption
 ·cases h
def tT (p0:(List Int)):Option ((List Int)×(Unit)) :=
 (jM (IntKind.u64.wrap ((p0).length:Int))).bind fun r1 =>
 (cL p0 0 ((p0).length:Int) r1).bind fun r3 =>
 some (r3.1,())
def qZ (p0:(List Int)):Option ((List Int)×(Unit)):=(tT p0).bind fun r=>if r.1.length=p0.length then some r else none
def kf (p0:(List Int)):Option ((List Int)×Unit):=if p0.length<4611686018427387904 then some (gu p0,()) else none
theorem D8 {p0:(List Int)} {r:(List Int)×Unit} (h:kf p0=some r):r.1.length=p0.length:=by
 unfold kf at h
 split at h
 ·cases h;exact fH p0
 ·cases h
def jh (p0:(List Int)):Option (List Int):=QX p0
def fV (p0:(List Int)):Option (Bool) :=
 (bI p0).bind fun r1 =>
 (kf r1).bind fun r3 =>
 (jh r3.1).bind fun r6 =>
 some (decide (((r6).length:Int)<(p0.length:Int)))
def dW (p0:aF) (p1:Int):Option (Bool) :=
 some (p0.cg==p1)
def pA (p0:au) (p1:Int):Option (Bool) :=
 if decide (p1≥0) then
  some (decide (p1<(p0.ag.length:Int)))
 else
  some false
def gD (p0:au) (p1:(List Int)):(Int)→Option ((Int)⊕((Unit)⊕(Bool)))
 | s18b =>
  if decide (s18b<(p1.length:Int)) then
   (P.idx p1 s18b).bind fun x15 =>
   (pA p0 x15).bind fun r16 =>
   if (!r16) then
    some (.inr (.inr false))
   else
    if decide (s18b>0) then
     (P.idx p1 (IntKind.i64.wrap (s18b-1))).bind fun x19 =>
     (P.idx p0.ag x19).bind fun x20 =>
     if (x20.bT != x15) then
      if (x20.bJ != x15) then
       some (.inr (.inr false))
      else
       some (.inl (IntKind.i64.wrap (s18b+1)))
     else
      some (.inl (IntKind.i64.wrap (s18b+1)))
    else
     some (.inl (IntKind.i64.wrap (s18b+1)))
  else
   some (.inr (.inl ()))
def iz (p0:au) (p1:(List Int)):Option (Bool) :=
 (dY p0).bind fun r1 =>
 (if (!r1) then
  some true
 else
  some ((p1.length:Int)==0)).bind fun s15j1 =>
 if s15j1 then
  some false
 else
  (aS (gD p0 p1) 0).bind fun q=>match q with
  | (.inl _) =>
   some true
  | (.inr rb) =>
   some rb
def jl (p0:av):Option (Bool) :=
 some (p0.bT==(-1))
def fE (p0:au) (p1:Int) (p2:ByteArray) (p3:Int) (p4:Int):Option (Bool) :=
 (dY p0).bind fun r1 =>
 (if (!r1) then
  some true
 else
  (eA p1 (IntKind.i64.wrap ((p0.ag.length:Int)-1))).bind fun r8 =>
  some (!r8)).bind fun s23j1 =>
 if s23j1 then
  some false
 else
  (P.idx p0.ag p1).bind fun x4 =>
  if (x4.cp.toList==p2.toList) then
   if (x4.aE==p3) then
    some (x4.aY==p4)
   else
    some false
  else
   some false
def iy (p0:au) (p1:(List Int)) (p2:Int) (p3:Int) (p4:ByteArray) (p5:Int) (p6:Int):Option (Bool) :=
 (iz p0 p1).bind fun r1 =>
 if (!r1) then
  some false
 else
  (P.idx p1 0).bind fun x3 =>
  (P.idx p0.ag x3).bind fun x4 =>
  (P.idx p1 (IntKind.i64.wrap ((p1.length:Int)-1))).bind fun x5 =>
  if (x4.aE==p2) then
   if (x4.aY==p3) then
    (P.idx p0.ag x5).bind fun x8 =>
    (jl x8).bind fun r9 =>
    if r9 then
     (fE p0 x5 p4 p5 p6).bind fun r11 =>
     some r11
    else
     some false
   else
    some false
  else
   some false
def ep (p0:j9) (p1:aF):Option (Bool) :=
 if decide ((p1.cP.length:Int)>0) then
  (P.idx p1.cP 0).bind fun x2 =>
  if (x2==p0.Ac) then
   (P.idx p1.cP (IntKind.i64.wrap ((p1.cP.length:Int)-1))).bind fun x4 =>
   if (x4==p1.cg) then
    (iy p0.Xd p1.cP p0.vF p0.vE p1.cp p1.aE p1.aY).bind fun r6 =>
    some r6
   else
    some false
  else
   some false
 else
  some false
def vw:(Int×(List Int))→Option ((Int×(List Int))⊕(((List Int))))
 | (s4b,l5b) =>
  if decide (s4b>0) then
   (ik 8 l5b [IntKind.i64.wrap (oN .and .u64 s4b 1048575)]).bind fun x9 =>
   (AH .u64 s4b 20).bind fun x11 =>
   some (.inl (x11,x9))
  else
   some (.inr l5b)
def uu (p0:Int):Option (aw) :=
 (if decide (p0<0) then
  some ((-1),IntKind.u64.wrap (0-(IntKind.u64.wrap p0)))
 else
  some (1,IntKind.u64.wrap p0)).bind fun q=>match q with
 | (s3j1,s4j1) =>
  (aS (vw) (s4j1,[])).bind fun l5bx =>
  (fK s3j1 l5bx).bind fun r13 =>
  some r13
def oZ (p0:Int):Option (aQ) :=
 (uu p0).bind fun r1 =>
 (uu 1).bind fun r2 =>
 some (aQ.mk r1 r2)
def lJ (p0:dt) (p1:aQ):Option (Bool) :=
 (gC p0).bind fun r1 =>
 if r1 then
  (fe p1).bind fun r3 =>
  if r3 then
   (fm p0.bq p1).bind fun r5 =>
   if decide (r5≤0) then
    (fm p1 p0.aT).bind fun r7 =>
    some (decide (r7≤0))
   else
    some false
  else
   some false
 else
  some false
def dX (p0:az) (p1:Int) (p2:aQ):Option (Bool) :=
 if (p0.cg==p1) then
  (lJ p0.bz p2).bind fun r2 =>
  some (!r2)
 else
  some false
def ck (p0:(List aF)) (p1c0:Int):(Int)→Option ((Int)⊕((Unit)⊕(Int)))
 | s8a =>
  if decide (s8a<(p0.length:Int)) then
   (P.idx p0 s8a).bind fun x7 =>
   (dW x7 p1c0).bind fun r8 =>
   if r8 then
    some (.inr (.inr s8a))
   else
    some (.inl (IntKind.i64.wrap (s8a+1)))
  else
   some (.inr (.inl ()))
def bp (p0:(List aF)) (p1c0:Int):Option (Int) :=
 (aS (ck p0 p1c0) 0).bind fun q=>match q with
 | (.inl _) =>
  some (-1)
 | (.inr ra) =>
  some ra
def cw (p0:(List az)) (p1c0:Int) (p1c1:aQ):(Int)→Option ((Int)⊕((Unit)⊕(Int)))
 | s8a =>
  if decide (s8a<(p0.length:Int)) then
   (P.idx p0 s8a).bind fun x7 =>
   (dX x7 p1c0 p1c1).bind fun r8 =>
   if r8 then
    some (.inr (.inr s8a))
   else
    some (.inl (IntKind.i64.wrap (s8a+1)))
  else
   some (.inr (.inl ()))
def bP (p0:(List az)) (p1c0:Int) (p1c1:aQ):Option (Int) :=
 (aS (cw p0 p1c0 p1c1) 0).bind fun q=>match q with
 | (.inl _) =>
  some (-1)
 | (.inr ra) =>
  some ra
def bo (p0:(List az)) (p1c0:Int) (p1c1:aQ):Option (Bool) :=
 (bP p0 p1c0 p1c1).bind fun r1 =>
 some (decide (r1≥0))
def dV (p0:j9) (p1:Int) (p2:(List aF)) (p3:(List az)):Option (Int) :=
 (bp p2 p1).bind fun r1 =>
 if decide (r1<0) then
  some 0
 else
  (P.idx p2 r1).bind fun x3 =>
  (ep p0 x3).bind fun r4 =>
  if (!r4) then
   some 1
  else
   (oZ x3.aE).bind fun r6 =>
   (bo p3 p1 r6).bind fun r7 =>
   if r7 then
    some 2
   else
    some (-1)
def cX (p0:(List az)):(Int)→Option ((Int)⊕((Unit)⊕(Int)))
 | s8a =>
  if decide (s8a<(p0.length:Int)) then
   (P.idx p0 s8a).bind fun x7 =>
   (iH x7).bind fun r8 =>
   if r8 then
    some (.inr (.inr s8a))
   else
    some (.inl (IntKind.i64.wrap (s8a+1)))
  else
   some (.inr (.inl ()))
def ct (p0:(List az)):Option (Int) :=
 (aS (cX p0) 0).bind fun q=>match q with
 | (.inl _) =>
  some (-1)
 | (.inr ra) =>
  some ra
def aJ (p0:(List az)):Option (Bool) :=
 (ct p0).bind fun r1 =>
 some (decide (r1≥0))
def eo (p0:au) (p1:Int) (p2:Int) (p3:Int) (p4:(List Int)) (p5:(List aF)) (p6:(List az)):(Int×(List bn))→Option ((Int×(List bn))⊕(((List bn))))
 | (s49b,l17b) =>
  if decide (s49b<(p4.length:Int)) then
   (P.idx p4 s49b).bind fun x16 =>
   (dV (j9.mk p0 p1 p2 p3) x16 p5 p6).bind fun r17 =>
   if (r17 != (-1)) then
    (ik 16 l17b [(bn.mk x16 r17)]).bind fun x19 =>
    some (.inl (IntKind.i64.wrap (s49b+1),x19))
   else
    some (.inl (IntKind.i64.wrap (s49b+1),l17b))
  else
   some (.inr l17b)
def eV (p0:au) (p1:Int) (p2:Int) (p3:Int) (p4:(List Int)) (p5:(List aF)) (p6:(List az)):Option ((List bn)×Int) :=
 (dY p0).bind fun r1 =>
 (if (!r1) then
  some true
 else
  if decide (p1<0) then
   some true
  else
   some (decide (p1≥(p0.ag.length:Int)))).bind fun s21j1 =>
 if s21j1 then
  some ([],1)
 else
  (aJ p6).bind fun r4 =>
  if r4 then
   some ([],1)
  else
   (fV p4).bind fun r6 =>
   if r6 then
    some ([],5)
   else
    (aS (eo p0 p1 p2 p3 p4 p5 p6) (0,[])).bind fun l17bx =>
    some (l17bx,0)
def nq (p0:(List bn)) (p1:(List bn)):(Int)→Option ((Int)⊕((Unit)⊕(Bool)))
 | s5a =>
  if decide (s5a<(p0.length:Int)) then
   (P.idx p0 s5a).bind fun x8 =>
   (P.idx p1 s5a).bind fun x9 =>
   if (!((x8.cg==x9.cg)&&(x8.lj==x9.lj))) then
    some (.inr (.inr false))
   else
    some (.inl (IntKind.i64.wrap (s5a+1)))
  else
   some (.inr (.inl ()))
def np (p0:(List bn)) (p1:(List bn)):Option (Bool) :=
 if ((p0.length:Int) != (p1.length:Int)) then
  some false
 else
  (aS (nq p0 p1) 0).bind fun q=>match q with
  | (.inl _) =>
   some true
  | (.inr ra) =>
   some ra
def jK (p0:au) (p1:(List Int)) (p2:Int) (p3:(List az)) (p4:(List bn)):Option (Bool) :=
 (eV p0 4 60 24 p1 ([(aF.mk 1 ([4,3,1]) (ByteArray.mk #[98]) p2 8)]) p3).bind fun r2 =>
 if (r2.2==0) then
  (np r2.1 p4).bind fun r4 =>
  some r4
 else
  some false
def strconv_Itoa (p0:Int):Option ByteArray:=ZW p0
def wo (p0:(List Int)):Option ByteArray:=Rq p0
def kM (p0:(List Int)):Option (ByteArray) :=
 (wo p0).bind fun r1 =>
 some r1
def kJ (p0:(List av)):Option (List av):=if p0.length≤maxLen then some p0 else none
def mc (p0:au) (p1:av):Option (au×Int×Int) :=
 (ez p0.ag).bind fun r1 =>
 (kJ r1).bind fun r2 =>
 (ik 48 r2 [p1]).bind fun x3 =>
 some ((au.mk x3),(p0.ag.length:Int),0)
def kg (p0:au) (p1:ByteArray) (p2:Int) (p3:Int):Option (au×Int×Int) :=
 (dY p0).bind fun r1 =>
 (if (!r1) then
  some true
 else
  (jm (av.mk p1 p2 p3 (-1) (-1))).bind fun r7 =>
  some (!r7)).bind fun s16j1 =>
 if s16j1 then
  some ((au.mk ([])),(-1),1)
 else
  if decide ((p0.ag.length:Int)≥2000) then
   some ((au.mk ([])),(-1),6)
  else
   (mc p0 (av.mk p1 p2 p3 (-1) (-1))).bind fun r5 =>
   some (r5.1,r5.2.1,r5.2.2)
def jS (p0:(List Int)) (p1:Int):(Int)→Option ((Int)⊕((Unit)⊕(Bool)))
 | s22b =>
  if decide (s22b<(p0.length:Int)) then
   (P.idx p0 s22b).bind fun x9 =>
   if decide (x9<0) then
    some (.inr (.inr false))
   else
    if decide (x9≥(IntKind.i64.wrap (p1-s22b))) then
     some (.inr (.inr false))
    else
     some (.inl (IntKind.i64.wrap (s22b+1)))
  else
   some (.inr (.inl ()))
def jj (p0:(List Int)) (p1:Int):Option (Bool) :=
 (if decide (p1<0) then
  some true
 else
  if decide (p1>1099511627776) then
   some true
  else
   some (decide ((p0.length:Int)>(if 100<p1 then 100 else p1)))).bind fun s19j1 =>
 if s19j1 then
  some false
 else
  (aS (jS p0 p1) 0).bind fun q=>match q with
  | (.inl _) =>
   some true
  | (.inr rb) =>
   some rb
def jB (p1:Int) (x26:(List Int)):(Int×(List Int))→Option ((Int×(List Int))⊕(((List Int))))
 | (s53f,l8f) =>
  if decide (s53f<(x26.length:Int)) then
   (P.idx x26 s53f).bind fun x37 =>
   (P.idx l8f s53f).bind fun x38 =>
   (wD .i64 (IntKind.i64.wrap (x38+x37)) (IntKind.i64.wrap (p1-s53f))).bind fun x39 =>
   some (.inl (IntKind.i64.wrap (s53f+1),(l8f.set (s53f).toNat x39)))
  else
   some (.inr l8f)
def oD (p0:(List (List Int))) (p1:Int) (p2:Int):(Int×(List Int))→Option ((Int×(List Int))⊕(((List Int))⊕((List Int)×Int)))
 | (s37b,l8b) =>
  if decide (s37b<(p0.length:Int)) then
   (P.idx p0 s37b).bind fun x26 =>
   (if ((x26.length:Int) != p2) then
    some true
   else
    (jj x26 p1).bind fun r43 =>
    some (!r43)).bind fun s50j5 =>
   if s50j5 then
    some (.inr (.inr ([],1)))
   else
    (aS (jB p1 x26) (0,l8b)).bind fun l8fx =>
    some (.inl (IntKind.i64.wrap (s37b+1),l8fx))
  else
   some (.inr (.inl l8b))
def l9 (p0:(List (List Int))) (p1:Int) (p2:Int):Option ((List Int)×Int) :=
 (if decide (p2<0) then
  some true
 else
  if decide (p2>100) then
   some true
  else
   if decide (p1<p2) then
    some true
   else
    if decide (p1>1099511627776) then
     some true
    else
     some (decide ((p0.length:Int)>400))).bind fun s32j1 =>
 if s32j1 then
  some ([],1)
 else
  (MS 8 p2 p2 0).bind fun x3 =>
  (aS (oD p0 p1 p2) (0,x3)).bind fun q=>match q with
  | (.inl l8bx) =>
   some (l8bx,0)
  | (.inr rb) =>
   some rb
def jR (p0:(List Int)):Option (List Int):=Ct p0
def cd (p0:(List Int)):Option (List Int):=zp p0
def jk (p0:(List Int)):Option (Bool) :=
 (jR p0).bind fun r1 =>
 (cd r1).bind fun r2 =>
 (jh r2).bind fun r4 =>
 some (decide (((r4).length:Int)<(p0.length:Int)))
def lK (p0:au) (p1:(List Int)) (p2:(List (List Int))) (p3:(List Int)):(Int)→Option ((Int)⊕((Unit)⊕((List Int)×Int)))
 | s47b =>
  if decide (s47b<(p1.length:Int)) then
   (P.idx p1 s47b).bind fun x16 =>
   (P.idx p2 s47b).bind fun x17 =>
   (kM x17).bind fun r18 =>
   (P.idx p3 s47b).bind fun x19 =>
   (fE p0 x16 r18 0 x19).bind fun r20 =>
   if (!r20) then
    some (.inr (.inr ([],22)))
   else
    some (.inl (IntKind.i64.wrap (s47b+1)))
  else
   some (.inr (.inl ()))
def kL (p0:au) (p1:(List Int)) (p2:(List (List Int))) (p3:(List Int)) (p4:Int) (p5:Int):Option ((List Int)×Int) :=
 (l9 p2 p4 p5).bind fun r1 =>
 if (r1.2 != 0) then
  some ([],r1.2)
 else
  (if ((p1.length:Int) != (p2.length:Int)) then
   some true
  else
   some ((p3.length:Int) != (p2.length:Int))).bind fun s29j1 =>
  if s29j1 then
   some ([],2)
  else
   (jk p1).bind fun r5 =>
   if r5 then
    some ([],5)
   else
    (aS (lK p0 p1 p2 p3) 0).bind fun q=>match q with
    | (.inl _) =>
     some (r1.1,0)
    | (.inr rb) =>
     some rb
def jA (l7a:(List Int)):(Int×Int)→Option ((Int×Int)⊕((Int×Int)))
 | (s9c,s10c) =>
  if decide (s10c<((l7a).length:Int)) then
   (P.idx l7a s10c).bind fun x26 =>
   if decide (x26≤s9c) then
    some (.inl (IntKind.i64.wrap (s9c+1),IntKind.i64.wrap (s10c+1)))
   else
    some (.inr (s9c,s10c))
  else
   some (.inr (s9c,s10c))
def jz (p0:(List Int)):(Int×(List Int)×(List Int))→Option ((Int×(List Int)×(List Int))⊕(((List Int))))
 | (s20a,l6a,l7a) =>
  if decide (s20a<(p0.length:Int)) then
   (P.idx p0 s20a).bind fun x20 =>
   (aS (jA l7a) (x20,0)).bind fun q=>match q with
   | (s9cx,s10cx) =>
    (ik 8 l6a [s9cx]).bind fun x28 =>
    (U2 8 l7a s10cx [s9cx]).bind fun x30 =>
    some (.inl (IntKind.i64.wrap (s20a+1),x28,x30))
  else
   some (.inr l6a)
def kK (p0:(List Int)) (p1:Int):Option ((List Int)×Int) :=
 (jj p0 p1).bind fun r1 =>
 if (!r1) then
  some ([],1)
 else
  (MS 8 0 (p0.length:Int) 0).bind fun x3 =>
  (aS (jz p0) (0,x3,[])).bind fun l6ax =>
  some (l6ax,0)
def kZ (p4:(List Int)) (r5:(List Int)×Int):(Int×(List Int))→Option ((Int×(List Int))⊕(((List Int))))
 | (s46a,l18a) =>
  if decide (s46a<(r5.1.length:Int)) then
   (P.idx r5.1 s46a).bind fun x13 =>
   (P.idx p4 x13).bind fun x14 =>
   (ik 8 l18a [x14]).bind fun x15 =>
   some (.inl (IntKind.i64.wrap (s46a+1),x15))
  else
   some (.inr l18a)
def fv (p0:au) (p1:(List Int)) (p2:(List (List Int))) (p3:(List Int)) (p4:(List Int)) (p5:Int):Option ((List Int)×Int) :=
 (kL p0 p1 p2 p3 (p4.length:Int) p5).bind fun r1 =>
 if (r1.2 != 0) then
  some ([],r1.2)
 else
  (fV p4).bind fun r3 =>
  if r3 then
   some ([],5)
  else
   (kK r1.1 (p4.length:Int)).bind fun r5 =>
   (aS (kZ p4 r5) (0,[])).bind fun l18ax =>
   some (l18ax,0)
def lX:Option (Bool) :=
 (ma (au.mk ([])) ([ByteArray.mk #[97],ByteArray.mk #[98],ByteArray.mk #[99]]) ([30,20,10]) ([7,8,9])).bind fun r2 =>
 (if (r2.2.2.2 != 0) then
  some true
 else
  if (r2.2.1 != 4) then
   some true
  else
   (ey r2.2.2.1 ([0,1,2])).bind fun r35 =>
   some (!r35)).bind fun s37j1 =>
 if s37j1 then
  some false
 else
  (gZ 19 21).bind fun r5 =>
  (gZ 21 22).bind fun r6 =>
  (jK r2.1 ([1]) 20 ([(az.mk 1 r5)]) ([])).bind fun r8 =>
  (if r8 then
   (jK r2.1 ([1,2]) 20 ([]) ([(bn.mk 2 0)])).bind fun r28 =>
   if r28 then
    (jK r2.1 ([1]) 21 ([]) ([(bn.mk 1 1)])).bind fun r31 =>
    some r31
   else
    some false
  else
   some false).bind fun s7j2 =>
  (jK r2.1 ([1]) 20 ([(az.mk 1 r5),(az.mk 1 r6)]) ([(bn.mk 1 2)])).bind fun r11 =>
  (eV r2.1 4 60 24 ([1,1]) ([]) ([])).bind fun r13 =>
  (kM ([2,0])).bind fun r15 =>
  (kg r2.1 r15 0 5).bind fun r16 =>
  (fv r16.1 ([r16.2.1]) ([[2,0]]) ([5]) r2.2.2.1 2).bind fun r18 =>
  if s7j2 then
   if r11 then
    if (r13.2==5) then
     if (r16.2.2==0) then
      if (r18.2==0) then
       (ey r18.1 ([2,0])).bind fun r25 =>
       some r25
      else
       some false
     else
      some false
    else
     some false
   else
    some false
  else
   some false
def s5 (p0:au) (p1:Int):(Int)→Option ((Int)⊕((Unit)⊕(Bool)))
 | s5a =>
  (if decide (s5a<(p0.ag.length:Int)) then
   some (decide (s5a<p1))
  else
   some false).bind fun s15j3 =>
  if s15j3 then
   (P.idx p0.ag s5a).bind fun x9 =>
   if decide ((x9.cp.size:Int)>100) then
    some (.inr (.inr false))
   else
    some (.inl (IntKind.i64.wrap (s5a+1)))
  else
   some (.inr (.inl ()))
def sZ (p0:au) (p1:Int):Option (Bool) :=
 (aS (s5 p0 p1) 0).bind fun q=>match q with
 | (.inl _) =>
  some (decide ((p0.ag.length:Int)≤p1))
 | (.inr ra) =>
  some ra
def qH (p0:aQ) (p1:Int):Option (Bool) :=
 if decide ((p0.cn.aa.length:Int)≤p1) then
  some (decide ((p0.cl.aa.length:Int)≤p1))
 else
  some false
def sY (p0:dt) (p1:Int):Option (Bool) :=
 (qH p0.bq p1).bind fun r1 =>
 if r1 then
  (qH p0.aT p1).bind fun r3 =>
  some r3
 else
  some false
def tf (p0:(List aF)):(Int)→Option ((Int)⊕((Unit)⊕(Bool)))
 | s5a =>
  (if decide (s5a<(p0.length:Int)) then
   some (decide (s5a≤14))
  else
   some false).bind fun s14j3 =>
  if s14j3 then
   (P.idx p0 s5a).bind fun x10 =>
   if decide ((x10.cP.length:Int)>14) then
    some (.inr (.inr false))
   else
    if decide ((x10.cp.size:Int)>100) then
     some (.inr (.inr false))
    else
     some (.inl (IntKind.i64.wrap (s5a+1)))
  else
   some (.inr (.inl ()))
def th (p1:(List az)):(Int)→Option ((Int)⊕((Unit)⊕(Bool)))
 | s6d =>
  (if decide (s6d<(p1.length:Int)) then
   some (decide (s6d≤14))
  else
   some false).bind fun s40j6 =>
  if s40j6 then
   (P.idx p1 s6d).bind fun x23 =>
   (sY x23.bz 4).bind fun r24 =>
   if (!r24) then
    some (.inr (.inr false))
   else
    some (.inl (IntKind.i64.wrap (s6d+1)))
  else
   some (.inr (.inl ()))
def te (p0:(List aF)) (p1:(List az)):Option (Bool) :=
 (aS (tf p0) 0).bind fun q=>match q with
 | (.inl _) =>
  (aS (th p1) 0).bind fun q=>match q with
  | (.inl _) =>
   if decide ((p0.length:Int)≤14) then
    some (decide ((p1.length:Int)≤14))
   else
    some false
  | (.inr rd) =>
   some rd
 | (.inr ra) =>
  some ra
def kd (p0:(List Int)):Option (Bool) :=
 if decide ((p0.length:Int)≤20) then
  some true
 else
  if decide ((p0.length:Int)>100) then
   some (decide ((p0.length:Int)≤102))
  else
   some false
def s7 (p0:(List (List Int))):(Int)→Option ((Int)⊕((Unit)⊕(Bool)))
 | s3a =>
  (if decide (s3a<(p0.length:Int)) then
   some (decide (s3a<410))
  else
   some false).bind fun s11j3 =>
  if s11j3 then
   (P.idx p0 s3a).bind fun x10 =>
   (kd x10).bind fun r11 =>
   if (!r11) then
    some (.inr (.inr false))
   else
    some (.inl (IntKind.i64.wrap (s3a+1)))
  else
   some (.inr (.inl ()))
def s6 (p0:(List (List Int))):Option (Bool) :=
 (aS (s7 p0) 0).bind fun q=>match q with
 | (.inl _) =>
  if decide ((p0.length:Int)≤8) then
   some true
  else
   if decide ((p0.length:Int)>400) then
    some (decide ((p0.length:Int)≤402))
   else
    some false
 | (.inr ra) =>
  some ra
def kC (p0:av):Option (Bool) :=
 if (p0.bT==(-1)) then
  some (p0.bJ==(-1))
 else
  some false
def qX (p0:Int) (p1:Int) (p2:Int):Option (Bool) :=
 if decide (p0≥p1) then
  some (decide (p0≤p2))
 else
  some false
def pk (p0:av):Option (Bool) :=
 (kC p0).bind fun r1 =>
 if r1 then
  if decide ((p0.cp.size:Int)≤8000) then
   (qX p0.aE 0 1099511627776).bind fun r4 =>
   if r4 then
    (qX p0.aY 0 1099511627776).bind fun r6 =>
    some r6
   else
    some false
  else
   some false
 else
  some false
def lB (p0:au):(Int)→Option ((Int)⊕((Unit)⊕(Bool)))
 | s3a =>
  if decide (s3a<(p0.ag.length:Int)) then
   (P.idx p0.ag s3a).bind fun x20 =>
   (pk x20).bind fun r21 =>
   if r21 then
    some (.inl (IntKind.i64.wrap (s3a+1)))
   else
    (if (!(x20.cp.toList==(ByteArray.mk #[]).toList)) then
     some true
    else
     (qX x20.bT 0 (IntKind.i64.wrap (s3a-1))).bind fun r32 =>
     if (!r32) then
      some true
     else
      (qX x20.bJ 0 (IntKind.i64.wrap (s3a-1))).bind fun r34 =>
      some (!r34)).bind fun s43j3 =>
    if s43j3 then
     some (.inr (.inr false))
    else
     (P.idx p0.ag x20.bT).bind fun x25 =>
     (P.idx p0.ag x20.bJ).bind fun x26 =>
     if (x20.aE != (IntKind.i64.wrap (x25.aE+x26.aE))) then
      some (.inr (.inr false))
     else
      if (x20.aY != (IntKind.i64.wrap (x25.aY+x26.aY))) then
       some (.inr (.inr false))
      else
       if decide (x20.aE>1125899906842624) then
        some (.inr (.inr false))
       else
        if decide (x20.aY>1125899906842624) then
         some (.inr (.inr false))
        else
         some (.inl (IntKind.i64.wrap (s3a+1)))
  else
   some (.inr (.inl ()))
def iM (p0:au):Option (Bool) :=
 if decide ((p0.ag.length:Int)>2000) then
  some false
 else
  (aS (lB p0) 0).bind fun q=>match q with
  | (.inl _) =>
   some true
  | (.inr ra) =>
   some ra
def qE (p0:aw) (p1:aw):(Int)→Option ((Int)⊕((Unit)⊕(Bool)))
 | s5b =>
  if decide (s5b<(p0.aa.length:Int)) then
   (P.idx p0.aa s5b).bind fun x9 =>
   (P.idx p1.aa s5b).bind fun x10 =>
   if (x9 != x10) then
    some (.inr (.inr false))
   else
    some (.inl (IntKind.i64.wrap (s5b+1)))
  else
   some (.inr (.inl ()))
def nc (p0:aw) (p1:aw):Option (Bool) :=
 (if (p0.ah != p1.ah) then
  some true
 else
  some ((p0.aa.length:Int) != (p1.aa.length:Int))).bind fun s19j1 =>
 if s19j1 then
  some false
 else
  (aS (qE p0 p1) 0).bind fun q=>match q with
  | (.inl _) =>
   some true
  | (.inr rb) =>
   some rb
def gj (p0:aw) (p1:aw):Option (Int) :=
 (du p0).bind fun r1 =>
 (if (!r1) then
  some true
 else
  (du p1).bind fun r9 =>
  if (!r9) then
   some true
  else
   (nc p0 p1).bind fun r11 =>
   some r11).bind fun s17j1 =>
 if s17j1 then
  some 0
 else
  if (p0.ah != p1.ah) then
   if decide (p0.ah<p1.ah) then
    some (-1)
   else
    some 1
  else
   (nd p0.aa p1.aa).bind fun r6 =>
   if (r6==(decide (p0.ah>0))) then
    some (-1)
   else
    some 1
def gP (p0:aQ):Option (Bool) :=
 (du p0.cn).bind fun r1 =>
 (if (!r1) then
  some true
 else
  (du p0.cl).bind fun r8 =>
  if (!r8) then
   some true
  else
   some (decide (p0.cl.ah<1))).bind fun s20j1 =>
 if s20j1 then
  some false
 else
  (ov p0.cn p0.cl).bind fun r4 =>
  (sW 1).bind fun r5 =>
  (gj r4.1 r5).bind fun r6 =>
  some (r6==0)
def mL (p0:aw) (p1:aw):Option (aw×Int) :=
 (du p0).bind fun r1 =>
 (if (!r1) then
  some true
 else
  (du p1).bind fun r7 =>
  some (!r7)).bind fun s13j1 =>
 if s13j1 then
  some ((aw.mk 0 ([])),1)
 else
  (jv p0.aa p1.aa).bind fun r4 =>
  (fi (IntKind.i64.wrap (p0.ah*p1.ah)) r4).bind fun r5 =>
  some (r5,0)
def gn (p0:aQ) (p1:aQ):Option (Int) :=
 (gP p0).bind fun r1 =>
 (if (!r1) then
  some true
 else
  (gP p1).bind fun r8 =>
  some (!r8)).bind fun s16j1 =>
 if s16j1 then
  some 0
 else
  (mL p0.cn p1.cl).bind fun r4 =>
  (mL p1.cn p0.cl).bind fun r5 =>
  (gj r4.1 r5.1).bind fun r6 =>
  some r6
def jw (p0:dt):Option (Bool) :=
 (gP p0.bq).bind fun r1 =>
 if r1 then
  (gP p0.aT).bind fun r3 =>
  if r3 then
   (gn p0.bq p0.aT).bind fun r5 =>
   some (decide (r5≤0))
  else
   some false
 else
  some false
def jy (p0:(List Int)) (s3a:Int):(Int)→Option ((Int)⊕((Unit)⊕(Bool)))
 | s4c =>
  if decide (s4c<s3a) then
   (P.idx p0 s4c).bind fun x19 =>
   (P.idx p0 s3a).bind fun x20 =>
   if (x19==x20) then
    some (.inr (.inr true))
   else
    some (.inl (IntKind.i64.wrap (s4c+1)))
  else
   some (.inr (.inl ()))
def lE (p0:(List Int)):(Int)→Option ((Int)⊕((Unit)⊕(Bool)))
 | s3a =>
  if decide (s3a<(p0.length:Int)) then
   (aS (jy p0 s3a) 0).bind fun q=>match q with
   | (.inl _) =>
    some (.inl (IntKind.i64.wrap (s3a+1)))
   | (.inr rc) =>
    some (.inr (.inr rc))
  else
   some (.inr (.inl ()))
def jx (p0:(List Int)):Option (Bool) :=
 (aS (lE p0) 0).bind fun q=>match q with
 | (.inl _) =>
  some false
 | (.inr ra) =>
  some ra
def AD (p0:au) (p1:Int):Option (Bool) :=
 if decide (p1≥0) then
  some (decide (p1<(p0.ag.length:Int)))
 else
  some false
def oC (p0:au) (p1:(List Int)):(Int)→Option ((Int)⊕((Unit)⊕(Bool)))
 | s5b =>
  if decide (s5b<(p1.length:Int)) then
   (P.idx p1 s5b).bind fun x15 =>
   (AD p0 x15).bind fun r16 =>
   if (!r16) then
    some (.inr (.inr false))
   else
    if decide (s5b>0) then
     (P.idx p1 (IntKind.i64.wrap (s5b-1))).bind fun x19 =>
     (P.idx p0.ag x19).bind fun x20 =>
     if (x20.bT != x15) then
      if (x20.bJ != x15) then
       some (.inr (.inr false))
      else
       some (.inl (IntKind.i64.wrap (s5b+1)))
     else
      some (.inl (IntKind.i64.wrap (s5b+1)))
    else
     some (.inl (IntKind.i64.wrap (s5b+1)))
  else
   some (.inr (.inl ()))
def l5 (p0:au) (p1:(List Int)):Option (Bool) :=
 (iM p0).bind fun r1 =>
 (if (!r1) then
  some true
 else
  some ((p1.length:Int)==0)).bind fun s14j1 =>
 if s14j1 then
  some false
 else
  (aS (oC p0 p1) 0).bind fun q=>match q with
  | (.inl _) =>
   some true
  | (.inr rb) =>
   some rb
def kD (p0:au) (p1:Int) (p2:ByteArray) (p3:Int) (p4:Int):Option (Bool) :=
 (iM p0).bind fun r1 =>
 (if (!r1) then
  some true
 else
  (qX p1 0 (IntKind.i64.wrap ((p0.ag.length:Int)-1))).bind fun r8 =>
  some (!r8)).bind fun s23j1 =>
 if s23j1 then
  some false
 else
  (P.idx p0.ag p1).bind fun x4 =>
  if (x4.cp.toList==p2.toList) then
   if (x4.aE==p3) then
    some (x4.aY==p4)
   else
    some false
  else
   some false
def l4 (p0:au) (p1:(List Int)) (p2:Int) (p3:Int) (p4:ByteArray) (p5:Int) (p6:Int):Option (Bool) :=
 (l5 p0 p1).bind fun r1 =>
 if (!r1) then
  some false
 else
  (P.idx p1 0).bind fun x3 =>
  (P.idx p0.ag x3).bind fun x4 =>
  (P.idx p1 (IntKind.i64.wrap ((p1.length:Int)-1))).bind fun x5 =>
  if (x4.aE==p2) then
   if (x4.aY==p3) then
    (P.idx p0.ag x5).bind fun x8 =>
    (kC x8).bind fun r9 =>
    if r9 then
     (kD p0 x5 p4 p5 p6).bind fun r11 =>
     some r11
    else
     some false
   else
    some false
  else
   some false
def qI (p0:dt) (p1:aQ):Option (Bool) :=
 (jw p0).bind fun r1 =>
 if r1 then
  (gP p1).bind fun r3 =>
  if r3 then
   (gn p0.bq p1).bind fun r5 =>
   if decide (r5≤0) then
    (gn p1 p0.aT).bind fun r7 =>
    some (decide (r7≤0))
   else
    some false
  else
   some false
 else
  some false
def iN (p4:Int) (p5:(List aF)):(Int×Int)→Option ((Int×Int)⊕((Int)))
 | (s15a,s16a) =>
  if decide (s16a≥0) then
   (P.idx p5 s16a).bind fun x6 =>
   if (x6.cg==p4) then
    some (.inl (s16a,IntKind.i64.wrap (s16a-1)))
   else
    some (.inl (s15a,IntKind.i64.wrap (s16a-1)))
  else
   some (.inr s15a)
def jO (p4:Int) (p6:(List az)) (x9:aF):(Int)→Option ((Int)⊕((Unit)⊕(Int)))
 | s18c =>
  if decide (s18c<(p6.length:Int)) then
   (P.idx p6 s18c).bind fun x22 =>
   if (x22.cg==p4) then
    (oB x9.aE).bind fun r24 =>
    (qI x22.bz r24).bind fun r25 =>
    if (!r25) then
     some (.inr (.inr 2))
    else
     some (.inl (IntKind.i64.wrap (s18c+1)))
   else
    some (.inl (IntKind.i64.wrap (s18c+1)))
  else
   some (.inr (.inl ()))
def ke (p0:au) (p1:Int) (p2:Int) (p3:Int) (p4:Int) (p5:(List aF)) (p6:(List az)):Option (Int) :=
 (aS (iN p4 p5) ((-1),IntKind.i64.wrap ((p5.length:Int)-1))).bind fun s15ax =>
 if decide (s15ax<0) then
  some 0
 else
  (P.idx p5 s15ax).bind fun x9 =>
  if ((x9.cP.length:Int)==0) then
   some 1
  else
   (P.idx x9.cP 0).bind fun x11 =>
   (if (x11 != p1) then
    some true
   else
    (P.idx x9.cP (IntKind.i64.wrap ((x9.cP.length:Int)-1))).bind fun x28 =>
    if (x28 != p4) then
     some true
    else
     (l4 p0 x9.cP p2 p3 x9.cp x9.aE x9.aY).bind fun r30 =>
     some (!r30)).bind fun s76j2 =>
   if s76j2 then
    some 1
   else
    (aS (jO p4 p6 x9) 0).bind fun q=>match q with
    | (.inl _) =>
     some (-1)
    | (.inr rc) =>
     some rc
def lD (p6:(List az)):(Int)→Option ((Int)⊕((Unit)⊕((List bn)×Int)))
 | s16b =>
  if decide (s16b<(p6.length:Int)) then
   (P.idx p6 s16b).bind fun x10 =>
   (jw x10.bz).bind fun r11 =>
   if (!r11) then
    some (.inr (.inr ([],1)))
   else
    some (.inl (IntKind.i64.wrap (s16b+1)))
  else
   some (.inr (.inl ()))
def iw (p0:au) (p1:Int) (p2:Int) (p3:Int) (p4:(List Int)) (p5:(List aF)) (p6:(List az)):(Int×(List bn))→Option ((Int×(List bn))⊕(((List bn))))
 | (s18c,l17c) =>
  if decide (s18c<(p4.length:Int)) then
   (P.idx p4 s18c).bind fun x23 =>
   (ke p0 p1 p2 p3 x23 p5 p6).bind fun r24 =>
   if decide (r24≥0) then
    (ik 16 l17c [(bn.mk x23 r24)]).bind fun x26 =>
    some (.inl (IntKind.i64.wrap (s18c+1),x26))
   else
    some (.inl (IntKind.i64.wrap (s18c+1),l17c))
  else
   some (.inr l17c)
def l8 (p0:au) (p1:Int) (p2:Int) (p3:Int) (p4:(List Int)) (p5:(List aF)) (p6:(List az)):Option ((List bn)×Int) :=
 (iM p0).bind fun r1 =>
 (if (!r1) then
  some true
 else
  if decide (p1<0) then
   some true
  else
   some (decide (p1≥(p0.ag.length:Int)))).bind fun s33j1 =>
 if s33j1 then
  some ([],1)
 else
  (aS (lD p6) 0).bind fun q=>match q with
  | (.inl _) =>
   (jx p4).bind fun r13 =>
   if r13 then
    some ([],5)
   else
    (aS (iw p0 p1 p2 p3 p4 p5 p6) (0,[])).bind fun l17cx =>
    some (l17cx,0)
  | (.inr rb) =>
   some rb
def lC (p0:(List Int)) (p1:Int):(Int)→Option ((Int)⊕((Unit)⊕(Bool)))
 | s5b =>
  if decide (s5b<(p0.length:Int)) then
   (P.idx p0 s5b).bind fun x9 =>
   if decide (x9<0) then
    some (.inr (.inr false))
   else
    if decide (x9≥(IntKind.i64.wrap (p1-s5b))) then
     some (.inr (.inr false))
    else
     some (.inl (IntKind.i64.wrap (s5b+1)))
  else
   some (.inr (.inl ()))
def kG (p0:(List Int)) (p1:Int):Option (Bool) :=
 (if decide (p1<0) then
  some true
 else
  if decide (p1>1099511627776) then
   some true
  else
   if decide ((p0.length:Int)>100) then
    some true
   else
    some (decide ((p0.length:Int)>p1))).bind fun s22j1 =>
 if s22j1 then
  some false
 else
  (aS (lC p0 p1) 0).bind fun q=>match q with
  | (.inl _) =>
   some true
  | (.inr rb) =>
   some rb
def nn (p0:(List (List Int))) (p1:Int) (p2:Int):(Int)→Option ((Int)⊕((Unit)⊕((List Int)×Int)))
 | s8b =>
  if decide (s8b<(p0.length:Int)) then
   (P.idx p0 s8b).bind fun x10 =>
   (kG x10 p1).bind fun r11 =>
   if (!r11) then
    some (.inr (.inr ([],1)))
   else
    if ((x10.length:Int) != p2) then
     some (.inr (.inr ([],1)))
    else
     some (.inl (IntKind.i64.wrap (s8b+1)))
  else
   some (.inr (.inl ()))
def kI (p0:(List (List Int))) (p1:Int) (s10c:Int):(Int×Int)→Option ((Int×Int)⊕((Int)))
 | (s11e,s12e) =>
  if decide (s12e<(p0.length:Int)) then
   (P.idx p0 s12e).bind fun x37 =>
   (P.idx x37 s10c).bind fun x38 =>
   (wD .i64 (IntKind.i64.wrap (s11e+x38)) (IntKind.i64.wrap (p1-s10c))).bind fun x39 =>
   some (.inl (x39,IntKind.i64.wrap (s12e+1)))
  else
   some (.inr s11e)
def kH (p0:(List (List Int))) (p1:Int) (p2:Int):(Int×(List Int))→Option ((Int×(List Int))⊕(((List Int))))
 | (s10c,l9c) =>
  if decide (s10c<p2) then
   (aS (kI p0 p1 s10c) (0,0)).bind fun s11ex =>
   (ik 8 l9c [s11ex]).bind fun x41 =>
   some (.inl (IntKind.i64.wrap (s10c+1),x41))
  else
   some (.inr l9c)
def pq (p0:(List (List Int))) (p1:Int) (p2:Int):Option ((List Int)×Int) :=
 (if decide (p2<0) then
  some true
 else
  if decide (p2>100) then
   some true
  else
   if decide (p1<p2) then
    some true
   else
    if decide (p1>1099511627776) then
     some true
    else
     some (decide ((p0.length:Int)>400))).bind fun s32j1 =>
 if s32j1 then
  some ([],1)
 else
  (aS (nn p0 p1 p2) 0).bind fun q=>match q with
  | (.inl _) =>
   (aS (kH p0 p1 p2) (0,[])).bind fun l9cx =>
   some (l9cx,0)
  | (.inr rb) =>
   some rb
def kc (p0:Int):Option ByteArray:=yq p0
def sV (p0:Int):Option (ByteArray) :=
 if decide (p0<0) then
  (kc p0).bind fun r2 =>
  (C4 (ByteArray.mk #[45]) r2).bind fun x3 =>
  (C4 x3 (ByteArray.mk #[59])).bind fun x5 =>
  some x5
 else
  (kc (IntKind.i64.wrap (0-p0))).bind fun r7 =>
  (C4 r7 (ByteArray.mk #[59])).bind fun x8 =>
  some x8
def kA (p0:(List Int)):(ByteArray×Int)→Option ((ByteArray×Int)⊕((ByteArray)))
 | (s3a,s4a) =>
  if decide (s4a<(p0.length:Int)) then
   (P.idx p0 s4a).bind fun x11 =>
   (sV x11).bind fun r12 =>
   (C4 s3a r12).bind fun x13 =>
   some (.inl (x13,IntKind.i64.wrap (s4a+1)))
  else
   some (.inr s3a)
def rE (p0:(List Int)):Option (ByteArray) :=
 (kc (IntKind.i64.wrap (0-(p0.length:Int)))).bind fun r1 =>
 (C4 r1 (ByteArray.mk #[91])).bind fun x2 =>
 (aS (kA p0) (x2,0)).bind fun s3ax =>
 (C4 s3ax (ByteArray.mk #[93])).bind fun x15 =>
 some x15
def pr (p0:(List Int)):Option (ByteArray) :=
 (rE p0).bind fun r1 =>
 some r1
def kF (p1:(List Int)) (s16b:Int):(Int)→Option ((Int)⊕((Unit)⊕((List Int)×Int)))
 | s17d =>
  if decide (s17d<s16b) then
   (P.idx p1 s17d).bind fun x23 =>
   (P.idx p1 s16b).bind fun x24 =>
   if (x23==x24) then
    some (.inr (.inr ([],5)))
   else
    some (.inl (IntKind.i64.wrap (s17d+1)))
  else
   some (.inr (.inl ()))
def nh (p1:(List Int)):(Int)→Option ((Int)⊕((Unit)⊕((List Int)×Int)))
 | s16b =>
  if decide (s16b<(p1.length:Int)) then
   (aS (kF p1 s16b) 0).bind fun q=>match q with
   | (.inl _) =>
    some (.inl (IntKind.i64.wrap (s16b+1)))
   | (.inr rd) =>
    some (.inr (.inr rd))
  else
   some (.inr (.inl ()))
def nk (p0:au) (p1:(List Int)) (p2:(List (List Int))) (p3:(List Int)):(Int)→Option ((Int)⊕((Unit)⊕((List Int)×Int)))
 | s18e =>
  if decide (s18e<(p1.length:Int)) then
   (P.idx p1 s18e).bind fun x35 =>
   (P.idx p2 s18e).bind fun x36 =>
   (pr x36).bind fun r37 =>
   (P.idx p3 s18e).bind fun x38 =>
   (kD p0 x35 r37 0 x38).bind fun r39 =>
   if (!r39) then
    some (.inr (.inr ([],22)))
   else
    some (.inl (IntKind.i64.wrap (s18e+1)))
  else
   some (.inr (.inl ()))
def po (p0:au) (p1:(List Int)) (p2:(List (List Int))) (p3:(List Int)) (p4:Int) (p5:Int):Option ((List Int)×Int) :=
 (pq p2 p4 p5).bind fun r1 =>
 if (r1.2 != 0) then
  some ([],r1.2)
 else
  (if ((p1.length:Int) != (p2.length:Int)) then
   some true
  else
   some ((p3.length:Int) != (p2.length:Int))).bind fun s40j1 =>
  if s40j1 then
   some ([],2)
  else
   (aS (nh p1) 0).bind fun q=>match q with
   | (.inl _) =>
    (aS (nk p0 p1 p2 p3) 0).bind fun q=>match q with
    | (.inl _) =>
     some (r1.1,0)
    | (.inr re) =>
     some re
   | (.inr rb) =>
    some rb
def l6 (p0:(List Int)) (s5a:Int):(Int×Int)→Option ((Int×Int)⊕((Int)))
 | (s6c,s7c) =>
  if decide (s7c<(p0.length:Int)) then
   (P.idx p0 s7c).bind fun x15 =>
   if decide (x15≤s5a) then
    some (.inl (IntKind.i64.wrap (s6c+1),IntKind.i64.wrap (s7c+1)))
   else
    some (.inl (s6c,IntKind.i64.wrap (s7c+1)))
  else
   some (.inr s6c)
def s9 (p0:(List Int)) (p1:Int):(Int)→Option ((Int)⊕((Int)))
 | s5a =>
  (aS (l6 p0 s5a) (0,0)).bind fun s6cx =>
  if (s5a==(IntKind.i64.wrap (p1+s6cx))) then
   some (.inr s5a)
  else
   some (.inl (IntKind.i64.wrap (p1+s6cx)))
def s8 (p0:(List Int)) (p1:Int):Option (Int) :=
 (aS (s9 p0 p1) p1).bind fun ra =>
 some ra
def kE (p0:(List Int)):(Int×(List Int))→Option ((Int×(List Int))⊕(((List Int))))
 | (s7a,l6a) =>
  if decide (s7a<(p0.length:Int)) then
   (P.idx p0 s7a).bind fun x10 =>
   (s8 l6a x10).bind fun r11 =>
   (ik 8 l6a [r11]).bind fun x12 =>
   some (.inl (IntKind.i64.wrap (s7a+1),x12))
  else
   some (.inr l6a)
def pn (p0:(List Int)) (p1:Int):Option ((List Int)×Int) :=
 (kG p0 p1).bind fun r1 =>
 if (!r1) then
  some ([],1)
 else
  (aS (kE p0) (0,[])).bind fun l6ax =>
  some (l6ax,0)
def td (p4:(List Int)) (r5:(List Int)×Int):(Int×(List Int))→Option ((Int×(List Int))⊕(((List Int))))
 | (s19a,l18a) =>
  if decide (s19a<(r5.1.length:Int)) then
   (P.idx r5.1 s19a).bind fun x13 =>
   (P.idx p4 x13).bind fun x14 =>
   (ik 8 l18a [x14]).bind fun x15 =>
   some (.inl (IntKind.i64.wrap (s19a+1),x15))
  else
   some (.inr l18a)
def l7 (p0:au) (p1:(List Int)) (p2:(List (List Int))) (p3:(List Int)) (p4:(List Int)) (p5:Int):Option ((List Int)×Int) :=
 (po p0 p1 p2 p3 (p4.length:Int) p5).bind fun r1 =>
 if (r1.2 != 0) then
  some ([],r1.2)
 else
  (jx p4).bind fun r3 =>
  if r3 then
   some ([],5)
  else
   (pn r1.1 (p4.length:Int)).bind fun r5 =>
   (aS (td p4 r5) (0,[])).bind fun l18ax =>
   some (l18ax,0)
def eX (p0:au) (p1:Int) (p2:Int) (p3:Int) (p4:(List Int)) (p5:(List aF)) (p6:(List az)) (p7:(List Int)) (p8:(List (List Int))) (p9:(List Int)) (p10:Int):Option (Bool) :=
 (lX).bind fun r1 =>
 (sZ p0 40).bind fun r2 =>
 (if (!r2) then
  some true
 else
  if decide ((p4.length:Int)>20) then
   some true
  else
   (te p5 p6).bind fun r17 =>
   if (!r17) then
    some true
   else
    if decide ((p7.length:Int)>20) then
     some true
    else
     (s6 p8).bind fun r20 =>
     if (!r20) then
      some true
     else
      some (decide ((p9.length:Int)>20))).bind fun s61j1 =>
 if s61j1 then
  some r1
 else
  (eV p0 p1 p2 p3 p4 p5 p6).bind fun r5 =>
  (l8 p0 p1 p2 p3 p4 p5 p6).bind fun r6 =>
  (fv p0 p7 p8 p9 p4 p10).bind fun r7 =>
  (l7 p0 p7 p8 p9 p4 p10).bind fun r8 =>
  if r1 then
   (np r5.1 r6.1).bind fun r10 =>
   if r10 then
    if (r5.2==r6.2) then
     (ey r7.1 r8.1).bind fun r13 =>
     if r13 then
      some (r7.2==r8.2)
     else
      some false
    else
     some false
   else
    some false
  else
   some false
end Go.Proofs.YtpkahnkoecbndaaGreatDoor.P
namespace Go.Proofs.YtpkahnkoecbndaaGreatDoor.Am
open Go.RowKit Go.Proofs.YtpkahnkoecbndaaGreatDoor.P
set_option maxRecDepth 100000
set_option maxHeartbeats 4000000
set_option linter.unusedSimpArgs false
set_option linter.unusedVariables false
theorem vmt:type_of% (ai @Yq<|ai @BF<|ai @Yr<|ai @Ys<|ai @Wi<|ai @V0<|ai @V1<|ai @PN<|ai @V2<|ai @J3<|ai @xV<|ai @J4<|ai @J5<|ai @J6<|ai @V3<|ai @V4<|ai @V5<|ai @PO<|ai @V6<|ai @PQ<|ai @V7<|ai @PR<|ai @V8<|ai @J7<|ai @V9<|ai @Wa<|ai @Wb<|ai @Wc<|ai @Wd<|ai @We<|ai @J8<|ai @Wf<|ai @Wg<|ai @Wh<|ai @J9<|ai @Wj<|ai @Wk<|ai @RX<|ai @RY<|ai @RZ<|ai @R0<|ai @R1<|ai @R2<|ai @R3<|ai @R4<|ai @R5<|ai @R6<|ai @R7<|ai @R8<|ai @R9<|@Sa):=⟨@Yq,@BF,@Yr,@Ys,@Wi,@V0,@V1,@PN,@V2,@J3,@xV,@J4,@J5,@J6,@V3,@V4,@V5,@PO,@V6,@PQ,@V7,@PR,@V8,@J7,@V9,@Wa,@Wb,@Wc,@Wd,@We,@J8,@Wf,@Wg,@Wh,@J9,@Wj,@Wk,@RX,@RY,@RZ,@R0,@R1,@R2,@R3,@R4,@R5,@R6,@R7,@R8,@R9,@Sa⟩
def fM:jU aw:=BX (lf (eI .i64) (iC (eI .i64))) (fun x=>(x.ah,x.aa)) (by rintro⟨⟩ ⟨⟩ h;simpa using h)
theorem A9 (x:aw):fM.cells x=[.int .i64 x.ah,.sl false false x.aa.length (ab (eI .i64) x.aa)]:=Eq.trans rfl rfl
theorem Du:fM.size=2:=Eq.trans rfl rfl
theorem Ll (x:aw):aw.mk x.ah x.aa=x:=Eq.trans rfl rfl
def jd:jU aQ:=BX (lf fM fM) (fun x=>(x.cn,x.cl)) (by rintro⟨⟩ ⟨⟩ h;simpa using h)
theorem yy (x:aQ):jd.cells x=[.int .i64 x.cn.ah,.sl false false x.cn.aa.length (ab (eI .i64) x.cn.aa),.int .i64 x.cl.ah,.sl false false x.cl.aa.length (ab (eI .i64) x.cl.aa)]:=Eq.trans rfl rfl
theorem Ba:jd.size=4:=Eq.trans rfl rfl
theorem Hi (x:aQ):aQ.mk x.cn x.cl=x:=Eq.trans rfl rfl
def sk:jU dt:=BX (lf jd jd) (fun x=>(x.bq,x.aT)) (by rintro⟨⟩ ⟨⟩ h;simpa using h)
theorem yA (x:dt):sk.cells x=[.int .i64 x.bq.cn.ah,.sl false false x.bq.cn.aa.length (ab (eI .i64) x.bq.cn.aa),.int .i64 x.bq.cl.ah,.sl false false x.bq.cl.aa.length (ab (eI .i64) x.bq.cl.aa),.int .i64 x.aT.cn.ah,.sl false false x.aT.cn.aa.length (ab (eI .i64) x.aT.cn.aa),.int .i64 x.aT.cl.ah,.sl false false x.aT.cl.aa.length (ab (eI .i64) x.aT.cl.aa)]:=Eq.trans rfl rfl
theorem Bc:sk.size=8:=Eq.trans rfl rfl
theorem Hk (x:dt):dt.mk x.bq x.aT=x:=Eq.trans rfl rfl
def aA:jU az:=BX (lf (eI .i64) sk) (fun x=>(x.cg,x.bz)) (by rintro⟨⟩ ⟨⟩ h;simpa using h)
theorem tG (x:az):aA.cells x=[.int .i64 x.cg,.int .i64 x.bz.bq.cn.ah,.sl false false x.bz.bq.cn.aa.length (ab (eI .i64) x.bz.bq.cn.aa),.int .i64 x.bz.bq.cl.ah,.sl false false x.bz.bq.cl.aa.length (ab (eI .i64) x.bz.bq.cl.aa),.int .i64 x.bz.aT.cn.ah,.sl false false x.bz.aT.cn.aa.length (ab (eI .i64) x.bz.aT.cn.aa),.int .i64 x.bz.aT.cl.ah,.sl false false x.bz.aT.cl.aa.length (ab (eI .i64) x.bz.aT.cl.aa)]:=Eq.trans rfl rfl
theorem uG:aA.size=9:=Eq.trans rfl rfl
theorem yG (x:az):az.mk x.cg x.bz=x:=Eq.trans rfl rfl
def UF:jU Qq:=BX (lf (iC nR) (lf (iC (eI .i64)) (iC (eI .i64)))) (fun x=>(x.Cl,x.yK,x.yJ)) (by rintro⟨⟩ ⟨⟩ h;simpa using h)
theorem yz (x:Qq):UF.cells x=[.sl false false x.Cl.length (ab nR x.Cl),.sl false false x.yK.length (ab (eI .i64) x.yK),.sl false false x.yJ.length (ab (eI .i64) x.yJ)]:=Eq.trans rfl rfl
theorem Bb:UF.size=3:=Eq.trans rfl rfl
theorem Hj (x:Qq):Qq.mk x.Cl x.yK x.yJ=x:=Eq.trans rfl rfl
def aR:jU aF:=BX (lf (eI .i64) (lf (iC (eI .i64)) (lf nR (lf (eI .i64) (eI .i64))))) (fun x=>(x.cg,x.cP,x.cp,x.aE,x.aY)) (by rintro⟨⟩ ⟨⟩ h;simpa using h)
theorem tH (x:aF):aR.cells x=[.int .i64 x.cg,.sl false false x.cP.length (ab (eI .i64) x.cP),.str x.cp,.int .i64 x.aE,.int .i64 x.aY]:=Eq.trans rfl rfl
theorem uH:aR.size=5:=Eq.trans rfl rfl
theorem yH (x:aF):aF.mk x.cg x.cP x.cp x.aE x.aY=x:=Eq.trans rfl rfl
def bN:jU bn:=BX (lf (eI .i64) (eI .i64)) (fun x=>(x.cg,x.lj)) (by rintro⟨⟩ ⟨⟩ h;simpa using h)
theorem tF (x:bn):bN.cells x=[.int .i64 x.cg,.int .i64 x.lj]:=Eq.trans rfl rfl
theorem uF:bN.size=2:=Eq.trans rfl rfl
theorem yF (x:bn):bn.mk x.cg x.lj=x:=Eq.trans rfl rfl
def al:jU av:=BX (lf nR (lf (eI .i64) (lf (eI .i64) (lf (eI .i64) (eI .i64))))) (fun x=>(x.cp,x.aE,x.aY,x.bT,x.bJ)) (by rintro⟨⟩ ⟨⟩ h;simpa using h)
theorem wR (x:av):al.cells x=[.str x.cp,.int .i64 x.aE,.int .i64 x.aY,.int .i64 x.bT,.int .i64 x.bJ]:=Eq.trans rfl rfl
theorem yB:al.size=5:=Eq.trans rfl rfl
theorem DF (x:av):av.mk x.cp x.aE x.aY x.bT x.bJ=x:=Eq.trans rfl rfl
def di:jU au:=BX (iC al) (fun x=>(x.ag)) (by rintro⟨⟩ ⟨⟩ h;simpa using h)
theorem wS (x:au):di.cells x=[.sl false false x.ag.length (ab al x.ag)]:=Eq.trans rfl rfl
theorem yC:di.size=1:=Eq.trans rfl rfl
theorem DG (x:au):au.mk x.ag=x:=Eq.trans rfl rfl
def Ci:jU j9:=BX (lf di (lf (eI .i64) (lf (eI .i64) (eI .i64)))) (fun x=>(x.Xd,x.Ac,x.vF,x.vE)) (by rintro⟨⟩ ⟨⟩ h;simpa using h)
theorem wT (x:j9):Ci.cells x=[.sl false false x.Xd.ag.length (ab al x.Xd.ag),.int .i64 x.Ac,.int .i64 x.vF,.int .i64 x.vE]:=Eq.trans rfl rfl
theorem yD:Ci.size=4:=Eq.trans rfl rfl
theorem DH (x:j9):j9.mk x.Xd x.Ac x.vF x.vE=x:=Eq.trans rfl rfl
def Hc:jU ye:=BX di (fun x=>(x.Cm)) (by rintro⟨⟩ ⟨⟩ h;simpa using h)
theorem tI (x:ye):Hc.cells x=[.sl false false x.Cm.ag.length (ab al x.Cm.ag)]:=Eq.trans rfl rfl
theorem uI:Hc.size=1:=Eq.trans rfl rfl
theorem yI (x:ye):ye.mk x.Cm=x:=Eq.trans rfl rfl
theorem X1 {l:List _} : (ab (eI .i64) l).length=l.length*1:=dx _ l
theorem PS {l:List _} : (ab (eI .i64) l).take (l.length*1)=ab (eI .i64) l:=by
 have:=gL (eI .i64) l l.length
 rw[List.take_length]at this
 exact this
theorem Wl {l:List _} {i:Nat} {x:_} : (ab (eI .i64) (l.set i x)).take (l.length*1)=ab (eI .i64) (l.set i x):=by
 have:=@PS (l.set i x)
 rwa [List.length_set]at this
theorem X2 {l:List _} : (ab (eI .u8) l).length=l.length*1:=dx _ l
theorem PT {l:List _} : (ab (eI .u8) l).take (l.length*1)=ab (eI .u8) l:=by
 have:=gL (eI .u8) l l.length
 rw[List.take_length]at this
 exact this
theorem Wm {l:List _} {i:Nat} {x:_} : (ab (eI .u8) (l.set i x)).take (l.length*1)=ab (eI .u8) (l.set i x):=by
 have:=@PT (l.set i x)
 rwa [List.length_set]at this
theorem X3 {l:List _} : (ab (iC (eI .i64)) l).length=l.length*1:=dx _ l
theorem PU {l:List _} : (ab (iC (eI .i64)) l).take (l.length*1)=ab (iC (eI .i64)) l:=by
 have:=gL (iC (eI .i64)) l l.length
 rw[List.take_length]at this
 exact this
theorem Wn {l:List _} {i:Nat} {x:_} : (ab (iC (eI .i64)) (l.set i x)).take (l.length*1)=ab (iC (eI .i64)) (l.set i x):=by
 have:=@PU (l.set i x)
 rwa [List.length_set]at this
theorem X4 {l:List _} : (ab nR l).length=l.length*1:=dx _ l
theorem PV {l:List _} : (ab nR l).take (l.length*1)=ab nR l:=by
 have:=gL nR l l.length
 rw[List.take_length]at this
 exact this
theorem Wo {l:List _} {i:Nat} {x:_} : (ab nR (l.set i x)).take (l.length*1)=ab nR (l.set i x):=by
 have:=@PV (l.set i x)
 rwa [List.length_set]at this
theorem X5 {l:List _} : (ab bN l).length=l.length*2:=dx _ l
theorem PW {l:List _} : (ab bN l).take (l.length*2)=ab bN l:=by
 have:=gL bN l l.length
 rw[List.take_length]at this
 exact this
theorem Wp {l:List _} {i:Nat} {x:_} : (ab bN (l.set i x)).take (l.length*2)=ab bN (l.set i x):=by
 have:=@PW (l.set i x)
 rwa [List.length_set]at this
theorem X6 {l:List _} : (ab aA l).length=l.length*9:=dx _ l
theorem PX {l:List _} : (ab aA l).take (l.length*9)=ab aA l:=by
 have:=gL aA l l.length
 rw[List.take_length]at this
 exact this
theorem Wq {l:List _} {i:Nat} {x:_} : (ab aA (l.set i x)).take (l.length*9)=ab aA (l.set i x):=by
 have:=@PX (l.set i x)
 rwa [List.length_set]at this
theorem X7 {l:List _} : (ab aR l).length=l.length*5:=dx _ l
theorem PY {l:List _} : (ab aR l).take (l.length*5)=ab aR l:=by
 have:=gL aR l l.length
 rw[List.take_length]at this
 exact this
theorem Wr {l:List _} {i:Nat} {x:_} : (ab aR (l.set i x)).take (l.length*5)=ab aR (l.set i x):=by
 have:=@PY (l.set i x)
 rwa [List.length_set]at this
theorem X8 {l:List _} : (ab al l).length=l.length*5:=dx _ l
theorem PZ {l:List _} : (ab al l).take (l.length*5)=ab al l:=by
 have:=gL al l l.length
 rw[List.take_length]at this
 exact this
theorem Ws {l:List _} {i:Nat} {x:_} : (ab al (l.set i x)).take (l.length*5)=ab al (l.set i x):=by
 have:=@PZ (l.set i x)
 rwa [List.length_set]at this
theorem vme:type_of% (ai @yx<|ai @A8<|ai @Dt<|ai @Aa<|ai @Q1<|ai @Dr<|ai @Hb<|ai @Lh<|ai @yE<|ai @A9<|ai @Du<|ai @yy<|ai @Ba<|ai @yA<|ai @Bc<|ai @tG<|ai @uG<|ai @yz<|ai @Bb<|ai @tH<|ai @uH<|ai @tF<|ai @uF<|ai @wR<|ai @yB<|ai @wS<|ai @yC<|ai @wT<|ai @yD<|ai @tI<|@uI):=⟨@yx,@A8,@Dt,@Aa,@Q1,@Dr,@Hb,@Lh,@yE,@A9,@Du,@yy,@Ba,@yA,@Bc,@tG,@uG,@yz,@Bb,@tH,@uH,@tF,@uF,@wR,@yB,@wS,@yC,@wT,@yD,@tI,@uI⟩
theorem vml:type_of% (ai @aZ<|ai @Ll<|ai @Hi<|ai @Hk<|ai @yG<|ai @Hj<|ai @yH<|ai @yF<|ai @DF<|ai @DG<|ai @DH<|ai @yI<|ai @X1<|ai @PS<|ai @Wl<|ai @X2<|ai @PT<|ai @Wm<|ai @X3<|ai @PU<|ai @Wn<|ai @X4<|ai @PV<|ai @Wo<|ai @X5<|ai @PW<|ai @Wp<|ai @X6<|ai @PX<|ai @Wq<|ai @X7<|ai @PY<|ai @Wr<|ai @X8<|ai @PZ<|@Ws):=⟨@aZ,@Ll,@Hi,@Hk,@yG,@Hj,@yH,@yF,@DF,@DG,@DH,@yI,@X1,@PS,@Wl,@X2,@PT,@Wm,@X3,@PU,@Wn,@X4,@PV,@Wo,@X5,@PW,@Wp,@X6,@PX,@Wq,@X7,@PY,@Wr,@X8,@PZ,@Ws⟩
theorem w:type_of% (ai @v<|ai @vmt<|ai @vme<|ai @vml<|@vi):=⟨@v,@vmt,@vme,@vml,@vi⟩
theorem b6:type_of% (ai @vme<|ai @List.cons_append.{0}<|ai @List.nil_append.{0}<|ai @List.length_nil.{0}<|ai @List.drop_succ_cons.{0}<|@List.drop_zero.{0}):=⟨@vme,@List.cons_append.{0},@List.nil_append.{0},@List.length_nil.{0},@List.drop_succ_cons.{0},@List.drop_zero.{0}⟩
noncomputable def jb:=dI (cH (aI .i64) (dn (aI .i64))) (fun x:Int×Int=>eA x.1 x.2) (fun r:Bool =>.clean (.bool r))
theorem gO (p0:Int) (p1:Int):jb none [.int .i64 p0,.int .i64 p1]=(eA p0 p1).map fun r:Bool=>(.clean (.bool r),none):=aC _ _ _ (p0,p1)
theorem Ed (p0:Int) (p1:Int) (r:Bool) (hh:eA p0 p1=some r):aM .clean tab aU FU Tryz.f91 none [.int .i64 p0,.int .i64 p1]=some (.clean (.bool r),none):=by
 refine aq rfl Tryz.ntmps91 Tryz.results91 ?_
 unfold eA at hh
 try simp only[w,seval,-Int.reduceToNat]
 refine sp bd hh (fun _ hh =>?_) (fun _ hh =>?_)
 ·cases hh
  try simp only[w,seval,-Int.reduceToNat]
 ·cases hh
  try simp only[w,seval,-Int.reduceToNat]
theorem nE:bE Tryz.prog 91 jb:=bE.of (mode := .clean) tok bK.none mixed Tryz.func91 (by kernel_rfl) ⟨by kernel_rfl,by kernel_rfl⟩ (fun _=>Nat.le_of_ble_eq_true (by kernel_rfl)) (fun x r h=>Ed x.1 x.2 r h)
noncomputable def nN:=dI (dn (cI al)) (fun x:av=>jm x) (fun r:Bool =>.clean (.bool r))
theorem ou (p0_0:ByteArray) (p0_1:Int) (p0_2:Int) (p0_3:Int) (p0_4:Int):nN none [.agg [.str p0_0,.int .i64 p0_1,.int .i64 p0_2,.int .i64 p0_3,.int .i64 p0_4]]=(jm (av.mk p0_0 p0_1 p0_2 p0_3 p0_4)).map fun r:Bool=>(.clean (.bool r),none):=aC _ _ _ ((av.mk p0_0 p0_1 p0_2 p0_3 p0_4))
noncomputable def n9:Env:=(Am.ext aU 91 false jb)
theorem FF:bK Tryz.prog n9:=(bK.none.add nE false)
theorem dE:type_of% (ai @w<|ai @gO<|@n9.eq_1):=⟨@w,@gO,@n9.eq_1⟩
theorem JA (p0:av) (r:Bool) (hh:jm p0=some r):aM .clean tab n9 FU Tryz.f51 none [.agg [.str p0.cp,.int .i64 p0.aE,.int .i64 p0.aY,.int .i64 p0.bT,.int .i64 p0.bJ]]=some (.clean (.bool r),none):=by
 refine aq rfl Tryz.ntmps51 Tryz.results51 ?_
 unfold jm at hh
 try simp only[dE,seval,-Int.reduceToNat]
 obtain⟨o1,ho1,hh⟩:=ae hh
 refine bA 0 (fun s t H e=>match s with|s3j1=>∃v1j1:Nat,t 1=.ptr 1 v1j1 0∧t 3=.bool s3j1∧H 1=some ⟨v1j1,87,[.str p0.cp,.int .i64 p0.aE,.int .i64 p0.aY,.int .i64 p0.bT,.int .i64 p0.bJ],false,false,false⟩) (fun s=>s=o1) ?_ ?_
 ·rintro s3j1 t H e ⟨v1j1,Zj1⟩ rfl
  try dsimp only at hh
  try simp only[dE,seval,-Int.reduceToNat,Zj1]
  refine sp bd hh (fun _ hh =>?_) (fun _ hh =>?_)
  ·try simp only[dE,seval,-Int.reduceToNat,Zj1]
   refine sp bd hh (fun _ hh =>?_) (fun _ hh =>?_)
   ·obtain⟨r4,hr4,hh⟩:=ae hh
    try simp only[dE,seval,-Int.reduceToNat,Zj1,hr4]
    refine sp bd hh (fun _ hh =>?_) (fun _ hh =>?_)
    ·obtain⟨r6,hr6,hh⟩:=ae hh
     cases hh
     try simp only[dE,seval,-Int.reduceToNat,Zj1,hr4,hr6]
    ·cases hh
     try simp only[dE,seval,-Int.reduceToNat,Zj1,hr4]
   ·cases hh
    try simp only[dE,seval,-Int.reduceToNat,Zj1]
  ·cases hh
   try simp only[dE,seval,-Int.reduceToNat,Zj1]
 ·clear hh
  have hh:=ho1
  try simp only[dE,seval,-Int.reduceToNat]
  refine sp bd hh (fun _ hh =>?_) (fun _ hh =>?_)
  ·cases hh
   try simp only[dE,seval,-Int.reduceToNat]
   rw[ak]
   refine⟨_,rfl,?_⟩
   refine⟨0,?_,?_,?_⟩
   all_goals first|rfl|(simp only[dE,seval,-Int.reduceToNat]<;>rfl)
  ·cases hh
   try simp only[dE,seval,-Int.reduceToNat]
   rw[ak]
   refine⟨_,rfl,?_⟩
   refine⟨0,?_,?_,?_⟩
   all_goals first|rfl|(simp only[dE,seval,-Int.reduceToNat]<;>rfl)
theorem wZ:bE Tryz.prog 51 nN:=bE.of (mode := .clean) tok FF mixed Tryz.func51 (by kernel_rfl) ⟨by kernel_rfl,by kernel_rfl⟩ (fun _=>Nat.le_of_ble_eq_true (by kernel_rfl)) (fun x r h=>JA x r h)
noncomputable def rW:=dI (cH (eZ al) (cH (aI .i64) (dn (aI .i64)))) (fun x:(List av)×Int×Int=>kh x.1 x.2.1 x.2.2) (fun r:av×Int =>.clean (.tup [.agg [.str r.1.cp,.int .i64 r.1.aE,.int .i64 r.1.aY,.int .i64 r.1.bT,.int .i64 r.1.bJ],.int .i64 r.2]))
theorem zn (p0:(List av)) (p1:Int) (p2:Int):rW none [.sl false false p0.length (ab al p0),.int .i64 p1,.int .i64 p2]=(kh p0 p1 p2).map fun r:av×Int=>(.clean (.tup [.agg [.str r.1.cp,.int .i64 r.1.aE,.int .i64 r.1.aY,.int .i64 r.1.bT,.int .i64 r.1.bJ],.int .i64 r.2]),none):=aC _ _ _ (p0,p1,p2)
noncomputable def oa:Env:=(Am.ext aU 91 false jb)
theorem FG:bK Tryz.prog oa:=(bK.none.add nE false)
theorem dm:type_of% (ai @w<|ai @gO<|@oa.eq_1):=⟨@w,@gO,@oa.eq_1⟩
theorem JB (p0:(List av)) (p1:Int) (p2:Int) (r:av×Int) (hh:kh p0 p1 p2=some r):aM .clean tab oa FU Tryz.f67 none [.sl false false p0.length (ab al p0),.int .i64 p1,.int .i64 p2]=some (.clean (.tup [.agg [.str r.1.cp,.int .i64 r.1.aE,.int .i64 r.1.aY,.int .i64 r.1.bT,.int .i64 r.1.bJ],.int .i64 r.2]),none):=by
 refine aq rfl Tryz.ntmps67 Tryz.results67 ?_
 unfold kh at hh
 obtain⟨r1,hr1,hh⟩:=ae hh
 try simp only[dm,seval,-Int.reduceToNat,hr1]
 obtain⟨o2,ho2,hh⟩:=ae hh
 refine bA 0 (fun s t H e=>match s with|s24j1=>∃v6j1:Nat,t 0=.sl false false p0.length (ab al p0)∧t 1=.int .i64 p1∧t 2=.int .i64 p2∧t 6=.ptr 6 v6j1 0∧t 24=.bool s24j1∧H 6=some ⟨v6j1,87,[.str (ByteArray.mk #[]),.int .i64 0,.int .i64 0,.int .i64 0,.int .i64 0],false,false,false⟩) (fun s=>s=o2) ?_ ?_
 ·rintro s24j1 t H e ⟨v6j1,Zj1⟩ rfl
  try dsimp only at hh
  try simp only[dm,seval,-Int.reduceToNat,hr1,Zj1]
  refine sp aj hh (fun _ hh =>?_) (fun _ hh =>?_)
  ·cases hh
   try simp only[dm,seval,-Int.reduceToNat,hr1,Zj1]
  ·obtain⟨x4,hx4,hh⟩:=ae hh
   have ax4:=bF al hx4
   simp only[b6]at ax4
   obtain⟨x5,hx5,hh⟩:=ae hh
   have ax5:=bF al hx5
   simp only[b6]at ax5
   try simp only[dm,seval,-Int.reduceToNat,hr1,Zj1,ax4,ax5]
   refine cf (by kernel_rfl) ?_
   try simp only[dm,seval,-Int.reduceToNat,hr1,Zj1,ax4,ax5]
   refine sp aB hh (fun _ hh =>?_) (fun _ hh =>?_)
   ·cases hh
    try simp only[dm,seval,-Int.reduceToNat,hr1,Zj1,ax4,ax5]
   ·try simp only[dm,seval,-Int.reduceToNat,hr1,Zj1,ax4,ax5]
    refine sp aj hh (fun _ hh =>?_) (fun _ hh =>?_)
    ·cases hh
     try simp only[dm,seval,-Int.reduceToNat,hr1,Zj1,ax4,ax5]
    ·cases hh
     try simp only[dm,seval,-Int.reduceToNat,hr1,Zj1,ax4,ax5]
 ·clear hh
  have hh:=ho2
  try simp only[dm,seval,-Int.reduceToNat,hr1]
  refine sp aB hh (fun _ hh =>?_) (fun _ hh =>?_)
  ·cases hh
   try simp only[dm,seval,-Int.reduceToNat,hr1]
   rw[ak]
   refine⟨_,rfl,?_⟩
   refine⟨0,?_,?_,?_,?_,?_,?_⟩
   all_goals first|rfl|(simp only[dm,seval,-Int.reduceToNat,hr1]<;>rfl)
  ·obtain⟨r9,hr9,hh⟩:=ae hh
   cases hh
   try simp only[dm,seval,-Int.reduceToNat,hr1,hr9]
   rw[ak]
   refine⟨_,rfl,?_⟩
   refine⟨0,?_,?_,?_,?_,?_,?_⟩
   all_goals first|rfl|(simp only[dm,seval,-Int.reduceToNat,hr1,hr9]<;>rfl)
theorem F9:bE Tryz.prog 67 rW:=bE.of (mode := .clean) tok FG mixed Tryz.func67 (by kernel_rfl) ⟨by kernel_rfl,by kernel_rfl⟩ (fun _=>Nat.le_of_ble_eq_true (by kernel_rfl)) (fun x r h=>JB x.1 x.2.1 x.2.2 r h)
noncomputable def gx:=dI (dn (cI di)) (fun x:au=>dY x) (fun r:Bool =>.clean (.bool r))
theorem dO (p0_0:(List av)):gx none [.agg [.sl false false p0_0.length (ab al p0_0)]]=(dY (au.mk p0_0)).map fun r:Bool=>(.clean (.bool r),none):=aC _ _ _ ((au.mk p0_0))
noncomputable def mD:Env:=(Am.ext (Am.ext aU 51 false nN) 67 false rW)
theorem DW:bK Tryz.prog mD:=((bK.none.add wZ false).add F9 false)
theorem bZ:type_of% (ai @w<|ai @ou<|ai @zn<|@mD.eq_1):=⟨@w,@ou,@zn,@mD.eq_1⟩
theorem FX (p0:au) (r:Bool) (hh:dY p0=some r):aM .clean tab mD FU Tryz.f39 none [.agg [.sl false false p0.ag.length (ab al p0.ag)]]=some (.clean (.bool r),none):=by
 refine aq rfl Tryz.ntmps39 Tryz.results39 ?_
 unfold dY at hh
 try simp only[bZ,seval,-Int.reduceToNat]
 refine sp aj hh (fun _ hh =>?_) (fun _ hh =>?_)
 ·cases hh
  try simp only[bZ,seval,-Int.reduceToNat]
 ·try simp only[bZ,seval,-Int.reduceToNat]
  obtain⟨o11,ho11,hh⟩:=ae hh
  refine ax (fun s t H e=>match s with|s14a=>∃v1a:Nat,t 1=.ptr 1 v1a 0∧t 12=.sl false false p0.ag.length (ab al p0.ag)∧t 13=.int .i64 (p0.ag.length:Int)∧t 14=.int .i64 s14a∧H 1=some ⟨v1a,24,[.sl false false p0.ag.length (ab al p0.ag)],false,false,false⟩) (fun o x t H e=>match o with|(.inl _)=>x=.exit 0|(.inr r)=>x=.ret∧eW .clean tab none [.tmp 2] ⟨t,H,e⟩=some (.clean (.bool r),none)) ho11 ?_ ?_ ?_
  ·refine⟨0,?_,?_,?_,?_,?_⟩
   all_goals first|rfl|(simp only[bZ,seval,-Int.reduceToNat]<;>rfl)
  ·rintro s14a t H e ⟨v1a,Za⟩ c hh
   simp only[lL]at hh
   try simp only[bZ,seval,-Int.reduceToNat,Za]
   refine sp aj hh (fun _ hh =>?_) (fun _ hh =>?_)
   ·obtain⟨x13,hx13,hh⟩:=ae hh
    have ax13:=bF al hx13
    simp only[b6]at ax13
    obtain⟨r14,hr14,hh⟩:=ae hh
    try simp only[bZ,seval,-Int.reduceToNat,Za,ax13,hr14]
    refine sp aj hh (fun _ hh =>?_) (fun _ hh =>?_)
    ·cases hh
     try simp only[bZ,seval,-Int.reduceToNat,Za,ax13,hr14]
     refine gA ?_
     refine⟨v1a,?_,?_,?_,?_,?_⟩
     all_goals first|rfl|(simp only[bZ,seval,-Int.reduceToNat,Za,ax13,hr14]<;>rfl)
    ·obtain⟨x16,hx16,hh⟩:=ae hh
     obtain⟨q17a,q17b,q17c,q17d,q17e⟩:=E2 al hx16
     simp only[b6]at q17e
     obtain⟨r18,hr18,hh⟩:=ae hh
     try simp only[bZ,seval,-Int.reduceToNat,Za,ax13,hr14,q17a,q17b,q17c,q17d,q17e,hr18]
     refine cf (by kernel_rfl) ?_
     try simp only[bZ,seval,-Int.reduceToNat,Za,ax13,hr14,q17a,q17b,q17c,q17d,q17e,hr18]
     refine sp aB hh (fun _ hh =>?_) (fun _ hh =>?_)
     ·cases hh
      try simp only[bZ,seval,-Int.reduceToNat,Za,ax13,hr14,q17a,q17b,q17c,q17d,q17e,hr18]
      refine pc ⟨rfl,?_⟩
      try simp only[bZ,seval,-Int.reduceToNat,Za,ax13,hr14,q17a,q17b,q17c,q17d,q17e,hr18]
     ·try simp only[bZ,seval,-Int.reduceToNat,Za,ax13,hr14,q17a,q17b,q17c,q17d,q17e,hr18]
      refine sp aj hh (fun _ hh =>?_) (fun _ hh =>?_)
      ·cases hh
       try simp only[bZ,seval,-Int.reduceToNat,Za,ax13,hr14,q17a,q17b,q17c,q17d,q17e,hr18]
       refine pc ⟨rfl,?_⟩
       try simp only[bZ,seval,-Int.reduceToNat,Za,ax13,hr14,q17a,q17b,q17c,q17d,q17e,hr18]
      ·cases hh
       try simp only[bZ,seval,-Int.reduceToNat,Za,ax13,hr14,q17a,q17b,q17c,q17d,q17e,hr18]
       refine gA ?_
       refine⟨v1a,?_,?_,?_,?_,?_⟩
       all_goals first|rfl|(simp only[bZ,seval,-Int.reduceToNat,Za,ax13,hr14,q17a,q17b,q17c,q17d,q17e,hr18]<;>rfl)
   ·cases hh
    try simp only[bZ,seval,-Int.reduceToNat,Za]
    refine iS ?_
    exact rfl
  ·rintro x t H e hx
   rcases o11 with _|ra
   ·dsimp only at hx hh
    subst hx
    cases hh
    try simp only[bZ,seval,-Int.reduceToNat]
   ·dsimp only at hx hh
    obtain⟨rfl,hE⟩:=hx
    cases hh
    try simp only[aO,aG,aW,bX,bW]
    exact hE
theorem jg:bE Tryz.prog 39 gx:=bE.of (mode := .clean) tok DW mixed Tryz.func39 (by kernel_rfl) ⟨by kernel_rfl,by kernel_rfl⟩ (fun _=>Nat.le_of_ble_eq_true (by kernel_rfl)) (fun x r h=>FX x r h)
noncomputable def uo:=dI (cH Sk (cH (aI .i64) (dn (aI .i64)))) (fun x:ByteArray×Int×Int=>oG x.1 x.2.1 x.2.2) (fun r:av =>.clean (.agg [.str r.cp,.int .i64 r.aE,.int .i64 r.aY,.int .i64 r.bT,.int .i64 r.bJ]))
theorem By (p0:ByteArray) (p1:Int) (p2:Int):uo none [.str p0,.int .i64 p1,.int .i64 p2]=(oG p0 p1 p2).map fun r:av=>(.clean (.agg [.str r.cp,.int .i64 r.aE,.int .i64 r.aY,.int .i64 r.bT,.int .i64 r.bJ]),none):=aC _ _ _ (p0,p1,p2)
theorem MJ (p0:ByteArray) (p1:Int) (p2:Int) (r:av) (hh:oG p0 p1 p2=some r):aM .clean tab aU FU Tryz.f62 none [.str p0,.int .i64 p1,.int .i64 p2]=some (.clean (.agg [.str r.cp,.int .i64 r.aE,.int .i64 r.aY,.int .i64 r.bT,.int .i64 r.bJ]),none):=by
 refine aq rfl Tryz.ntmps62 Tryz.results62 ?_
 unfold oG at hh
 cases hh
 try simp only[w,seval,-Int.reduceToNat]
theorem JR:bE Tryz.prog 62 uo:=bE.of (mode := .clean) tok bK.none mixed Tryz.func62 (by kernel_rfl) ⟨by kernel_rfl,by kernel_rfl⟩ (fun _=>Nat.le_of_ble_eq_true (by kernel_rfl)) (fun x r h=>MJ x.1 x.2.1 x.2.2 r h)
theorem Ao (r:(List av)) (hh:ez []=some r):aM (.fresh 87 5) tab aU FU Tryz.f63 none [.sl true true 0 []]=some (.fresh 87 5 r.length (ab al r),none):=by
 unfold ez at hh
 obtain⟨qa,qb,qc⟩:=rX hh
 subst qa
 refine aq rfl Tryz.ntmps63 Tryz.results63 ?_
 simp only[w,seval,-Int.reduceToNat,Nat.lt_irrefl]
theorem Ap (r:(List av)) (hh:ez []=some r):aM (.fresh 87 5) tab aU FU Tryz.f63 none [.sl true false 0 []]=some (.fresh 87 5 r.length (ab al r),none):=by
 unfold ez at hh
 obtain⟨qa,qb,qc⟩:=rX hh
 subst qa
 refine aq rfl Tryz.ntmps63 Tryz.results63 ?_
 simp only[w,seval,-Int.reduceToNat,Nat.lt_irrefl]
theorem Aq (p0 r:(List av)) (hp:0<p0.length) (hh:ez p0=some r):aM (.fresh 87 5) tab aU FU Tryz.f63 none [.sl false false p0.length (ab al p0)]=some (.fresh 87 5 r.length (ab al r),none):=by
 unfold ez at hh
 have hz:¬p0.length=0:=by omega
 obtain⟨qa,qb,qc⟩:=rX hh
 subst qa
 refine aq rfl Tryz.ntmps63 Tryz.results63 ?_
 simp only[w,seval,-Int.reduceToNat,hp,hz,qb,qc]
noncomputable def kX:=dI (dn (eZ al)) (fun x:(List av)=>ez x) (fun r:(List av) =>.fresh 87 5 r.length (ab al r))
theorem lA (p0:(List av)):kX none [.sl false false p0.length (ab al p0)]=(ez p0).map fun r:(List av)=>(.fresh 87 5 r.length (ab al r),none):=aC _ _ _ p0
theorem tN:bE Tryz.prog 63 kX:=bE.Yc (mode:=(.fresh 87 5)) tok bK.none mixed Tryz.func63 (by kernel_rfl) ⟨by kernel_rfl,by kernel_rfl⟩ (Nat.le_of_ble_eq_true (by kernel_rfl)) Ao Ap Aq
noncomputable def UW:List D→List D→Option (List D):=rn al (dn (cI al)) Oe
theorem ZQ:Cz Tryz.prog 64 ⟨87,5,48,UW⟩:=YC al av.mk (fun _ _ _ _ _=>rfl) (fun x=>⟨_,_,_,_,_,rfl⟩)
theorem xP (l:List av) (p1_0:ByteArray) (p1_1:Int) (p1_2:Int) (p1_3:Int) (p1_4:Int) {z:List av} (h:rG l (av.mk p1_0 p1_1 p1_2 p1_3 p1_4)=some z):∃cs,UW (ab al l) [.agg [.str p1_0,.int .i64 p1_1,.int .i64 p1_2,.int .i64 p1_3,.int .i64 p1_4]]=some cs∧ab al l++cs=ab al z∧l.length+1=z.length∧z.length*48≤140737488355328:=LQ al (A:=(dn (cI al))) (F:=Oe) (b:=(av.mk p1_0 p1_1 p1_2 p1_3 p1_4)) h
theorem wz (r:(List Int)) (hh:bI []=some r):aM (.fresh 3 1) tab aU FU Tryz.f65 none [.sl true true 0 []]=some (.fresh 3 1 r.length (ab (eI .i64) r),none):=by
 unfold bI at hh
 obtain⟨qa,qb,qc⟩:=rX hh
 subst qa
 refine aq rfl Tryz.ntmps65 Tryz.results65 ?_
 simp only[w,seval,-Int.reduceToNat,Nat.lt_irrefl]
theorem wB (r:(List Int)) (hh:bI []=some r):aM (.fresh 3 1) tab aU FU Tryz.f65 none [.sl true false 0 []]=some (.fresh 3 1 r.length (ab (eI .i64) r),none):=by
 unfold bI at hh
 obtain⟨qa,qb,qc⟩:=rX hh
 subst qa
 refine aq rfl Tryz.ntmps65 Tryz.results65 ?_
 simp only[w,seval,-Int.reduceToNat,Nat.lt_irrefl]
theorem wC (p0 r:(List Int)) (hp:0<p0.length) (hh:bI p0=some r):aM (.fresh 3 1) tab aU FU Tryz.f65 none [.sl false false p0.length (ab (eI .i64) p0)]=some (.fresh 3 1 r.length (ab (eI .i64) r),none):=by
 unfold bI at hh
 have hz:¬p0.length=0:=by omega
 obtain⟨qa,qb,qc⟩:=rX hh
 subst qa
 refine aq rfl Tryz.ntmps65 Tryz.results65 ?_
 simp only[w,seval,-Int.reduceToNat,hp,hz,qb,qc]
noncomputable def e9:=dI (dn (eZ (eI .i64))) (fun x:(List Int)=>bI x) (fun r:(List Int) =>.fresh 3 1 r.length (ab (eI .i64) r))
theorem dH (p0:(List Int)):e9 none [.sl false false p0.length (ab (eI .i64) p0)]=(bI p0).map fun r:(List Int)=>(.fresh 3 1 r.length (ab (eI .i64) r),none):=aC _ _ _ p0
theorem iu:bE Tryz.prog 65 e9:=bE.Yc (mode:=(.fresh 3 1)) tok bK.none mixed Tryz.func65 (by kernel_rfl) ⟨by kernel_rfl,by kernel_rfl⟩ (Nat.le_of_ble_eq_true (by kernel_rfl)) wz wB wC
noncomputable def UX:List D→List D→Option (List D):=rn al (cH (aI .i64) (dn (aI .i64))) (Eu av.mk (fun x=>x.aE) (fun x=>x.aY))
theorem ZR:Cz Tryz.prog 66 ⟨87,5,48,UX⟩:=Xr al av.mk (fun _ _ _ _ _=>rfl) (fun x=>⟨_,_,_,_,_,rfl⟩) (fun x=>x.aE) (fun x=>x.aY) (fun _ _ _ _ _=>rfl) (fun _ _ _ _ _=>rfl)
theorem wE (l:List av) (p1:Int) (p2:Int) {z:List av} (h:qM l p1 p2=some z):∃cs,UX (ab al l) [.int .i64 p1,.int .i64 p2]=some cs∧ab al l++cs=ab al z∧l.length+1=z.length∧z.length*48≤140737488355328:=LQ al (A:=(cH (aI .i64) (dn (aI .i64)))) (F:=(Eu av.mk (fun x=>x.aE) (fun x=>x.aY))) (b:=(p1,p2)) h
noncomputable def rS:=dI (cH (cI di) (cH (eZ nR) (cH (eZ (eI .i64)) (dn (eZ (eI .i64)))))) (fun x:au×(List ByteArray)×(List Int)×(List Int)=>ma x.1 x.2.1 x.2.2.1 x.2.2.2) (fun r:au×Int×(List Int)×Int =>.clean (.tup [.agg [.sl false false r.1.ag.length (ab al r.1.ag)],.int .i64 r.2.1,.sl false false r.2.2.1.length (ab (eI .i64) r.2.2.1),.int .i64 r.2.2.2]))
theorem sU (p0_0:(List av)) (p1:(List ByteArray)) (p2:(List Int)) (p3:(List Int)):rS none [.agg [.sl false false p0_0.length (ab al p0_0)],.sl false false p1.length (ab nR p1),.sl false false p2.length (ab (eI .i64) p2),.sl false false p3.length (ab (eI .i64) p3)]=(ma (au.mk p0_0) p1 p2 p3).map fun r:au×Int×(List Int)×Int=>(.clean (.tup [.agg [.sl false false r.1.ag.length (ab al r.1.ag)],.int .i64 r.2.1,.sl false false r.2.2.1.length (ab (eI .i64) r.2.2.1),.int .i64 r.2.2.2]),none):=aC _ _ _ ((au.mk p0_0),p1,p2,p3)
noncomputable def nY:Env:=(Am.keep 82 (Am.keep 81 (Am.wV 14 1000014 (Am.Aj 66 ⟨87,5,48,UX⟩ (Am.ext (Am.Aj 64 ⟨87,5,48,UW⟩ (Am.ext (Am.ext (Am.ext aU 39 false gx) 62 false uo) 63 false kX)) 65 false e9)))))
theorem FB:bK Tryz.prog nY:=(bK.keep (bK.keep (bK.wV (bK.Aj ((bK.Aj (((bK.none.add jg false).add JR false).add tN false) ZQ).add iu false) ZR) 14 1000014) 81) 82)
theorem ay:type_of% (ai @w<|ai @dO<|ai @By<|ai @lA<|ai @dH<|@nY.eq_1):=⟨@w,@dO,@By,@lA,@dH,@nY.eq_1⟩
theorem Jv (p0:au) (p1:(List ByteArray)) (p2:(List Int)) (p3:(List Int)) (r:au×Int×(List Int)×Int) (hh:ma p0 p1 p2 p3=some r):aM .clean tab nY FU Tryz.f37 none [.agg [.sl false false p0.ag.length (ab al p0.ag)],.sl false false p1.length (ab nR p1),.sl false false p2.length (ab (eI .i64) p2),.sl false false p3.length (ab (eI .i64) p3)]=some (.clean (.tup [.agg [.sl false false r.1.ag.length (ab al r.1.ag)],.int .i64 r.2.1,.sl false false r.2.2.1.length (ab (eI .i64) r.2.2.1),.int .i64 r.2.2.2]),none):=by
 refine aq rfl Tryz.ntmps37 Tryz.results37 ?_
 unfold ma at hh
 obtain⟨r1,hr1,hh⟩:=ae hh
 try simp only[ay,ne_eq,not_false_eq_true,seval,-Int.reduceToNat,hr1]
 obtain⟨o2,ho2,hh⟩:=ae hh
 refine bA 0 (fun s t H e=>match s with|s39j1=>∃v4j1:Nat,∃v8j1:Nat,∃v10j1:Nat,t 1=.sl false false p1.length (ab nR p1)∧t 2=.sl false false p2.length (ab (eI .i64) p2)∧t 3=.sl false false p3.length (ab (eI .i64) p3)∧t 4=.ptr 4 v4j1 0∧t 8=.ptr 8 v8j1 0∧t 10=.buf 10 v10j1 1 0 0∧t 12=.int .i64 (p1.length:Int)∧t 39=.bool s39j1∧H 4=some ⟨v4j1,24,[.sl false false p0.ag.length (ab al p0.ag)],false,false,false⟩∧H 8=some ⟨v8j1,24,[.sl true true 0 []],false,false,false⟩∧H 10=some ⟨v10j1,3,[],false,true,false⟩) (fun s=>s=o2) ?_ ?_
 ·rintro s39j1 t H e ⟨v4j1,v8j1,v10j1,Zj1⟩ rfl
  try dsimp only at hh
  try simp only[ay,ne_eq,not_false_eq_true,seval,-Int.reduceToNat,hr1,Zj1]
  refine sp aj hh (fun _ hh =>?_) (fun _ hh =>?_)
  ·cases hh
   try simp only[ay,ne_eq,not_false_eq_true,seval,-Int.reduceToNat,hr1,Zj1]
  ·try simp only[ay,ne_eq,not_false_eq_true,seval,-Int.reduceToNat,hr1,Zj1]
   obtain⟨o12,ho12,hh⟩:=ae hh
   refine ax (fun s t H e=>match s with|s43b=>∃v4b:Nat,∃v8b:Nat,∃v10b:Nat,t 1=.sl false false p1.length (ab nR p1)∧t 2=.sl false false p2.length (ab (eI .i64) p2)∧t 3=.sl false false p3.length (ab (eI .i64) p3)∧t 4=.ptr 4 v4b 0∧t 8=.ptr 8 v8b 0∧t 10=.buf 10 v10b 1 0 0∧t 12=.int .i64 (p1.length:Int)∧t 42=.int .i64 (p1.length:Int)∧t 43=.int .i64 s43b∧H 4=some ⟨v4b,24,[.sl false false p0.ag.length (ab al p0.ag)],false,false,false⟩∧H 8=some ⟨v8b,24,[.sl true true 0 []],false,false,false⟩∧H 10=some ⟨v10b,3,[],false,true,false⟩) (fun o x t H e=>match o with|(.inl _)=>x=.exit 0∧∃v4bx:Nat,∃v8bx:Nat,∃v10bx:Nat,t 1=.sl false false p1.length (ab nR p1)∧t 2=.sl false false p2.length (ab (eI .i64) p2)∧t 3=.sl false false p3.length (ab (eI .i64) p3)∧t 4=.ptr 4 v4bx 0∧t 8=.ptr 8 v8bx 0∧t 10=.buf 10 v10bx 1 0 0∧t 12=.int .i64 (p1.length:Int)∧H 4=some ⟨v4bx,24,[.sl false false p0.ag.length (ab al p0.ag)],false,false,false⟩∧H 8=some ⟨v8bx,24,[.sl true true 0 []],false,false,false⟩∧H 10=some ⟨v10bx,3,[],false,true,false⟩|(.inr r)=>x=.ret∧eW .clean tab none [.cell 8 24,.tmp 9,.tmp 10,.tmp 11] ⟨t,H,e⟩=some (.clean (.tup [.agg [.sl false false r.1.ag.length (ab al r.1.ag)],.int .i64 r.2.1,.sl false false r.2.2.1.length (ab (eI .i64) r.2.2.1),.int .i64 r.2.2.2]),none)) ho12 ?_ ?_ ?_
   ·refine⟨v4j1,v8j1,v10j1,?_,?_,?_,?_,?_,?_,?_,?_,?_,?_,?_,?_⟩
    all_goals first|rfl|(simp only[ay,ne_eq,not_false_eq_true,seval,-Int.reduceToNat,hr1,Zj1]<;>rfl)
   ·rintro s43b t H e ⟨v4b,v8b,v10b,Zb⟩ c hh
    simp only[xh]at hh
    try simp only[ay,ne_eq,not_false_eq_true,seval,-Int.reduceToNat,hr1,Zb]
    refine sp aj hh (fun _ hh =>?_) (fun _ hh =>?_)
    ·obtain⟨x14,hx14,hh⟩:=ae hh
     have ax14:=bF nR hx14
     simp only[b6]at ax14
     obtain⟨x15,hx15,hh⟩:=ae hh
     have ax15:=bF (eI .i64) hx15
     simp only[b6]at ax15
     obtain⟨x16,hx16,hh⟩:=ae hh
     have ax16:=bF (eI .i64) hx16
     simp only[b6]at ax16
     obtain⟨r17,hr17,hh⟩:=ae hh
     have i18:=dO ([r17])
     simp only[aZ,b6,List.length_cons,List.length_nil,Nat.zero_add,Nat.reduceAdd,List.length_set]at i18
     obtain⟨r19,hr19,hh⟩:=ae hh
     try simp only[ay,ne_eq,not_false_eq_true,seval,-Int.reduceToNat,hr1,Zb,ax14,ax15,ax16,hr17,i18,hr19]
     refine cf (by kernel_rfl) ?_
     try simp only[ay,ne_eq,not_false_eq_true,seval,-Int.reduceToNat,hr1,Zb,ax14,ax15,ax16,hr17,i18,hr19]
     refine sp aj hh (fun _ hh =>?_) (fun _ hh =>?_)
     ·cases hh
      try simp only[ay,ne_eq,not_false_eq_true,seval,-Int.reduceToNat,hr1,Zb,ax14,ax15,ax16,hr17,i18,hr19]
      refine pc ⟨rfl,?_⟩
      try simp only[ay,ne_eq,not_false_eq_true,seval,-Int.reduceToNat,hr1,Zb,ax14,ax15,ax16,hr17,i18,hr19]
     ·cases hh
      try simp only[ay,ne_eq,not_false_eq_true,seval,-Int.reduceToNat,hr1,Zb,ax14,ax15,ax16,hr17,i18,hr19]
      refine gA ?_
      refine⟨v4b,v8b,v10b,?_,?_,?_,?_,?_,?_,?_,?_,?_,?_,?_,?_⟩
      all_goals first|rfl|(simp only[ay,ne_eq,not_false_eq_true,seval,-Int.reduceToNat,hr1,Zb,ax14,ax15,ax16,hr17,i18,hr19]<;>rfl)
    ·cases hh
     try simp only[ay,ne_eq,not_false_eq_true,seval,-Int.reduceToNat,hr1,Zb]
     refine iS ?_
     refine⟨rfl,⟨v4b,v8b,v10b,?_,?_,?_,?_,?_,?_,?_,?_,?_,?_⟩⟩
     all_goals first|rfl|(simp only[ay,ne_eq,not_false_eq_true,seval,-Int.reduceToNat,hr1,Zb]<;>rfl)
   ·rintro x t H e hx
    rcases o12 with _|rb
    ·dsimp only at hx hh
     obtain⟨rfl,⟨v4bx,v8bx,v10bx,Zbx⟩⟩:=hx
     try simp only[ay,ne_eq,not_false_eq_true,seval,-Int.reduceToNat,hr1,Zbx]
     obtain⟨o21,ho21,hh⟩:=ae hh
     refine bA 0 (fun s t H e=>match s with|s76j3=>∃v4j3:Nat,∃v8j3:Nat,∃v10j3:Nat,t 1=.sl false false p1.length (ab nR p1)∧t 2=.sl false false p2.length (ab (eI .i64) p2)∧t 3=.sl false false p3.length (ab (eI .i64) p3)∧t 4=.ptr 4 v4j3 0∧t 8=.ptr 8 v8j3 0∧t 10=.buf 10 v10j3 1 0 0∧t 76=.bool s76j3∧H 4=some ⟨v4j3,24,[.sl false false p0.ag.length (ab al p0.ag)],false,false,false⟩∧H 8=some ⟨v8j3,24,[.sl true true 0 []],false,false,false⟩∧H 10=some ⟨v10j3,3,[],false,true,false⟩) (fun s=>s=o21) ?_ ?_
     ·rintro s76j3 t H e ⟨v4j3,v8j3,v10j3,Zj3⟩ rfl
      try dsimp only at hh
      try simp only[ay,ne_eq,not_false_eq_true,seval,-Int.reduceToNat,hr1,Zj3]
      refine sp aj hh (fun _ hh =>?_) (fun _ hh =>?_)
      ·cases hh
       try simp only[ay,ne_eq,not_false_eq_true,seval,-Int.reduceToNat,hr1,Zj3]
      ·obtain⟨r23,hr23,hh⟩:=ae hh
       try simp only[ay,ne_eq,not_false_eq_true,seval,-Int.reduceToNat,hr1,Zj3,hr23]
       obtain⟨o33,ho33,hh⟩:=ae hh
       refine ax (fun s t H e=>match s with|(s85d,l10d,l1000014d)=>∃v8d:Nat,∃v10d:Nat,∃v14d:Nat,∃v1000014d:Nat,t 1=.sl false false p1.length (ab nR p1)∧t 2=.sl false false p2.length (ab (eI .i64) p2)∧t 3=.sl false false p3.length (ab (eI .i64) p3)∧t 8=.ptr 8 v8d 0∧t 10=.buf 10 v10d 1 0 (l10d).length∧t 14=.pm 14 v14d 1000014∧t 84=.int .i64 (p1.length:Int)∧t 85=.int .i64 s85d∧H 8=some ⟨v8d,24,[.sl true true 0 []],false,false,false⟩∧H 10=some ⟨v10d,3,ab (eI .i64) l10d,false,true,false⟩∧H 14=some ⟨v14d,110,[.ph 1000014 5 ((l1000014d).length)],false,false,true⟩∧H 1000014=some ⟨v1000014d,87,ab al l1000014d,false,true,false⟩) (fun o x t H e=>match o with|(l10dx,l1000014dx)=>x=.exit 2∧∃v8dx:Nat,∃v10dx:Nat,∃v14dx:Nat,∃v1000014dx:Nat,t 8=.ptr 8 v8dx 0∧t 10=.buf 10 v10dx 1 0 (l10dx).length∧t 14=.pm 14 v14dx 1000014∧H 8=some ⟨v8dx,24,[.sl true true 0 []],false,false,false⟩∧H 10=some ⟨v10dx,3,ab (eI .i64) l10dx,false,true,false⟩∧H 14=some ⟨v14dx,110,[.ph 1000014 5 ((l1000014dx).length)],false,false,true⟩∧H 1000014=some ⟨v1000014dx,87,ab al l1000014dx,false,true,false⟩) ho33 ?_ ?_ ?_
       ·refine⟨v8j3,v10j3,e,0,?_,?_,?_,?_,?_,?_,?_,?_,?_,?_,?_,?_⟩
        all_goals first|rfl|(simp only[ay,ne_eq,not_false_eq_true,seval,-Int.reduceToNat,hr1,Zj3,hr23]<;>rfl)
       ·rintro⟨s85d,l10d,l1000014d⟩ t H e ⟨v8d,v10d,v14d,v1000014d,Zd⟩ c hh
        simp only[xi]at hh
        try simp only[ay,ne_eq,not_false_eq_true,seval,-Int.reduceToNat,hr1,hr23,Zd]
        refine sp aj hh (fun _ hh =>?_) (fun _ hh =>?_)
        ·obtain⟨x35,hx35,hh⟩:=ae hh
         have ax35:=bF nR hx35
         simp only[b6]at ax35
         obtain⟨x36,hx36,hh⟩:=ae hh
         have ax36:=bF (eI .i64) hx36
         simp only[b6]at ax36
         obtain⟨x37,hx37,hh⟩:=ae hh
         have ax37:=bF (eI .i64) hx37
         simp only[b6]at ax37
         obtain⟨r38,hr38,hh⟩:=ae hh
         obtain⟨x39,hx39,hh⟩:=ae hh
         obtain⟨q40w,q40a,q40b,q40c,q40d⟩:=xP l1000014d r38.cp r38.aE r38.aY r38.bT r38.bJ hx39
         try simp only[b6]at q40a
         obtain⟨x41,hx41,hh⟩:=ae hh
         obtain⟨q42a,q42b,q42c,q42d⟩:=fa (eI .i64) hx41
         simp only[b6]at q42b
         try simp only[ay,ne_eq,not_false_eq_true,seval,-Int.reduceToNat,hr1,hr23,Zd,ax35,ax36,ax37,hr38,q40a,q40b,q40c,q40d,q42a,q42b,q42c,q42d]
         refine cf (by kernel_rfl) ?_
         cases hh
         try simp only[ay,ne_eq,not_false_eq_true,seval,-Int.reduceToNat,hr1,hr23,Zd,ax35,ax36,ax37,hr38,q40a,q40b,q40c,q40d,q42a,q42b,q42c,q42d]
         refine gA ?_
         refine⟨v8d,e+1+1,v14d,v1000014d,?_,?_,?_,?_,?_,?_,?_,?_,?_,?_,?_,?_⟩
         all_goals first|rfl|(simp only[ay,ne_eq,not_false_eq_true,seval,-Int.reduceToNat,hr1,hr23,Zd,ax35,ax36,ax37,hr38,q40a,q40b,q40c,q40d,q42a,q42b,q42c,q42d]<;>rfl)
        ·cases hh
         try simp only[ay,ne_eq,not_false_eq_true,seval,-Int.reduceToNat,hr1,hr23,Zd]
         refine iS ?_
         refine⟨rfl,⟨v8d,v10d,v14d,v1000014d,?_,?_,?_,?_,?_,?_,?_⟩⟩
         all_goals first|rfl|(simp only[ay,ne_eq,not_false_eq_true,seval,-Int.reduceToNat,hr1,hr23,Zd]<;>rfl)
       ·rintro x t H e hx
        rcases o33 with⟨l10dx,l1000014dx⟩
        dsimp only at hx hh
        obtain⟨rfl,⟨v8dx,v10dx,v14dx,v1000014dx,Zdx⟩⟩:=hx
        obtain⟨r43,hr43,hh⟩:=ae hh
        try simp only[ay,ne_eq,not_false_eq_true,seval,-Int.reduceToNat,hr1,hr23,Zdx,hr43]
        obtain⟨o66,ho66,hh⟩:=ae hh
        refine ax (fun s t H e=>match s with|(l16e,l1000014e)=>∃v8e:Nat,∃v10e:Nat,∃v14e:Nat,∃v16e:Nat,∃v1000014e:Nat,t 8=.ptr 8 v8e 0∧t 10=.buf 10 v10e 1 0 (l10dx).length∧t 14=.pm 14 v14e 1000014∧t 16=.buf 16 v16e 1 0 (l16e).length∧H 8=some ⟨v8e,24,[.sl true true 0 []],false,false,false⟩∧H 10=some ⟨v10e,3,ab (eI .i64) l10dx,false,true,false⟩∧H 14=some ⟨v14e,110,[.ph 1000014 5 ((l1000014e).length)],false,false,true⟩∧H 16=some ⟨v16e,3,ab (eI .i64) l16e,false,true,false⟩∧H 1000014=some ⟨v1000014e,87,ab al l1000014e,false,true,false⟩) (fun o x t H e=>match o with|(l16ex,l1000014ex)=>x=.exit 4∧∃v8ex:Nat,∃v10ex:Nat,∃v14ex:Nat,∃v16ex:Nat,∃v1000014ex:Nat,t 8=.ptr 8 v8ex 0∧t 10=.buf 10 v10ex 1 0 (l10dx).length∧t 14=.pm 14 v14ex 1000014∧t 16=.buf 16 v16ex 1 0 (l16ex).length∧H 8=some ⟨v8ex,24,[.sl true true 0 []],false,false,false⟩∧H 10=some ⟨v10ex,3,ab (eI .i64) l10dx,false,true,false⟩∧H 14=some ⟨v14ex,110,[.ph 1000014 5 ((l1000014ex).length)],false,false,true⟩∧H 16=some ⟨v16ex,3,ab (eI .i64) l16ex,false,true,false⟩∧H 1000014=some ⟨v1000014ex,87,ab al l1000014ex,false,true,false⟩) ho66 ?_ ?_ ?_
        ·refine⟨v8dx,v10dx,v14dx,e,v1000014dx,?_,?_,?_,?_,?_,?_,?_,?_,?_⟩
         all_goals first|rfl|(simp only[ay,ne_eq,not_false_eq_true,seval,-Int.reduceToNat,hr1,hr23,Zdx,hr43]<;>rfl)
        ·rintro⟨l16e,l1000014e⟩ t H e ⟨v8e,v10e,v14e,v16e,v1000014e,Ze⟩ c hh
         simp only[xj]at hh
         try simp only[ay,ne_eq,not_false_eq_true,seval,-Int.reduceToNat,hr1,hr23,hr43,Ze]
         refine sp aj hh (fun _ hh =>?_) (fun _ hh =>?_)
         ·try simp only[ay,ne_eq,not_false_eq_true,seval,-Int.reduceToNat,hr1,hr23,hr43,Ze]
          obtain⟨o75,ho75,hh⟩:=ae hh
          refine ax (fun s t H e=>match s with|(s18g,l17g,l1000014g)=>∃v8g:Nat,∃v10g:Nat,∃v14g:Nat,∃v16g:Nat,∃v17g:Nat,∃v1000014g:Nat,t 8=.ptr 8 v8g 0∧t 10=.buf 10 v10g 1 0 (l10dx).length∧t 14=.pm 14 v14g 1000014∧t 16=.buf 16 v16g 1 0 (l16e).length∧t 17=.buf 17 v17g 1 0 (l17g).length∧t 18=.int .i64 s18g∧H 8=some ⟨v8g,24,[.sl true true 0 []],false,false,false⟩∧H 10=some ⟨v10g,3,ab (eI .i64) l10dx,false,true,false⟩∧H 14=some ⟨v14g,110,[.ph 1000014 5 ((l1000014g).length)],false,false,true⟩∧H 16=some ⟨v16g,3,ab (eI .i64) l16e,false,true,false⟩∧H 17=some ⟨v17g,3,ab (eI .i64) l17g,false,true,false⟩∧H 1000014=some ⟨v1000014g,87,ab al l1000014g,false,true,false⟩) (fun o x t H e=>match o with|(l17gx,l1000014gx)=>x=.exit 6∧∃v8gx:Nat,∃v10gx:Nat,∃v14gx:Nat,∃v16gx:Nat,∃v17gx:Nat,∃v1000014gx:Nat,t 8=.ptr 8 v8gx 0∧t 10=.buf 10 v10gx 1 0 (l10dx).length∧t 14=.pm 14 v14gx 1000014∧t 16=.buf 16 v16gx 1 0 (l16e).length∧t 17=.buf 17 v17gx 1 0 (l17gx).length∧H 8=some ⟨v8gx,24,[.sl true true 0 []],false,false,false⟩∧H 10=some ⟨v10gx,3,ab (eI .i64) l10dx,false,true,false⟩∧H 14=some ⟨v14gx,110,[.ph 1000014 5 ((l1000014gx).length)],false,false,true⟩∧H 16=some ⟨v16gx,3,ab (eI .i64) l16e,false,true,false⟩∧H 17=some ⟨v17gx,3,ab (eI .i64) l17gx,false,true,false⟩∧H 1000014=some ⟨v1000014gx,87,ab al l1000014gx,false,true,false⟩) ho75 ?_ ?_ ?_
          ·refine⟨v8e,v10e,v14e,v16e,e+1,v1000014e,?_,?_,?_,?_,?_,?_,?_,?_,?_,?_,?_,?_⟩
           all_goals first|rfl|(simp only[ay,ne_eq,not_false_eq_true,seval,-Int.reduceToNat,hr1,hr23,hr43,Ze]<;>rfl)
          ·rintro⟨s18g,l17g,l1000014g⟩ t H e ⟨v8g,v10g,v14g,v16g,v17g,v1000014g,Zg⟩ c hh
           simp only[xk]at hh
           try simp only[ay,ne_eq,not_false_eq_true,seval,-Int.reduceToNat,hr1,hr23,hr43,Zg]
           refine sp aj hh (fun _ hh =>?_) (fun _ hh =>?_)
           ·obtain⟨x77,hx77,hh⟩:=ae hh
            have ax77:=bF (eI .i64) hx77
            simp only[b6]at ax77
            obtain⟨x78,hx78,hh⟩:=ae hh
            have ax78:=bF (eI .i64) hx78
            simp only[b6]at ax78
            obtain⟨x79,hx79,hh⟩:=ae hh
            obtain⟨q80w,q80a,q80b,q80c,q80d⟩:=wE l1000014g x77 x78 hx79
            try simp only[b6]at q80a
            obtain⟨x81,hx81,hh⟩:=ae hh
            obtain⟨q82a,q82b,q82c,q82d⟩:=fa (eI .i64) hx81
            simp only[b6]at q82b
            try simp only[ay,ne_eq,not_false_eq_true,seval,-Int.reduceToNat,hr1,hr23,hr43,Zg,ax77,ax78,q80a,q80b,q80c,q80d,q82a,q82b,q82c,q82d]
            refine cf (by kernel_rfl) ?_
            cases hh
            try simp only[ay,ne_eq,not_false_eq_true,seval,-Int.reduceToNat,hr1,hr23,hr43,Zg,ax77,ax78,q80a,q80b,q80c,q80d,q82a,q82b,q82c,q82d]
            refine gA ?_
            refine⟨v8g,v10g,v14g,v16g,e+1,v1000014g,?_,?_,?_,?_,?_,?_,?_,?_,?_,?_,?_,?_⟩
            all_goals first|rfl|(simp only[ay,ne_eq,not_false_eq_true,seval,-Int.reduceToNat,hr1,hr23,hr43,Zg,ax77,ax78,q80a,q80b,q80c,q80d,q82a,q82b,q82c,q82d]<;>rfl)
           ·cases hh
            try simp only[ay,ne_eq,not_false_eq_true,seval,-Int.reduceToNat,hr1,hr23,hr43,Zg]
            refine iS ?_
            refine⟨rfl,⟨v8g,v10g,v14g,v16g,v17g,v1000014g,?_,?_,?_,?_,?_,?_,?_,?_,?_,?_,?_⟩⟩
            all_goals first|rfl|(simp only[ay,ne_eq,not_false_eq_true,seval,-Int.reduceToNat,hr1,hr23,hr43,Zg]<;>rfl)
          ·rintro x t H e hx
           rcases o75 with⟨l17gx,l1000014gx⟩
           dsimp only at hx hh
           obtain⟨rfl,⟨v8gx,v10gx,v14gx,v16gx,v17gx,v1000014gx,Zgx⟩⟩:=hx
           obtain⟨x83,hx83,hh⟩:=ae hh
           have q84:=qo hx83
           try simp only[ay,ne_eq,not_false_eq_true,seval,-Int.reduceToNat,hr1,hr23,hr43,Zgx,q84]
           refine sp aj hh (fun _ hh =>?_) (fun _ hh =>?_)
           ·obtain⟨x86,hx86,hh⟩:=ae hh
            have ax86:=bF (eI .i64) hx86
            simp only[b6]at ax86
            obtain⟨x87,hx87,hh⟩:=ae hh
            obtain⟨q88a,q88b,q88c,q88d⟩:=fa (eI .i64) hx87
            simp only[b6]at q88b
            cases hh
            try simp only[ay,ne_eq,not_false_eq_true,seval,-Int.reduceToNat,hr1,hr23,hr43,Zgx,q84,ax86,q88a,q88b,q88c,q88d]
            refine gA ?_
            refine⟨v8gx,v10gx,v14gx,e+1+1,v1000014gx,?_,?_,?_,?_,?_,?_,?_,?_,?_⟩
            all_goals first|rfl|(simp only[ay,ne_eq,not_false_eq_true,seval,-Int.reduceToNat,hr1,hr23,hr43,Zgx,q84,ax86,q88a,q88b,q88c,q88d]<;>rfl)
           ·cases hh
            try simp only[ay,ne_eq,not_false_eq_true,seval,-Int.reduceToNat,hr1,hr23,hr43,Zgx,q84]
            refine gA ?_
            refine⟨v8gx,v10gx,v14gx,e+1,v1000014gx,?_,?_,?_,?_,?_,?_,?_,?_,?_⟩
            all_goals first|rfl|(simp only[ay,ne_eq,not_false_eq_true,seval,-Int.reduceToNat,hr1,hr23,hr43,Zgx,q84]<;>rfl)
         ·cases hh
          try simp only[ay,ne_eq,not_false_eq_true,seval,-Int.reduceToNat,hr1,hr23,hr43,Ze]
          refine iS ?_
          refine⟨rfl,⟨v8e,v10e,v14e,v16e,v1000014e,?_,?_,?_,?_,?_,?_,?_,?_,?_⟩⟩
          all_goals first|rfl|(simp only[ay,ne_eq,not_false_eq_true,seval,-Int.reduceToNat,hr1,hr23,hr43,Ze]<;>rfl)
        ·rintro x t H e hx
         rcases o66 with⟨l16ex,l1000014ex⟩
         dsimp only at hx hh
         obtain⟨rfl,⟨v8ex,v10ex,v14ex,v16ex,v1000014ex,Zex⟩⟩:=hx
         obtain⟨x89,hx89,hh⟩:=ae hh
         have ax89:=bF (eI .i64) hx89
         simp only[b6]at ax89
         try simp only[ay,ne_eq,not_false_eq_true,seval,-Int.reduceToNat,hr1,hr23,hr43,Zex,ax89]
         refine cf (by kernel_rfl) ?_
         cases hh
         try simp only[ay,ne_eq,not_false_eq_true,seval,-Int.reduceToNat,hr1,hr23,hr43,Zex,ax89]
     ·clear hh
      have hh:=ho21
      try simp only[ay,ne_eq,not_false_eq_true,seval,-Int.reduceToNat,hr1,Zbx]
      refine sp aB hh (fun _ hh =>?_) (fun _ hh =>?_)
      ·cases hh
       try simp only[ay,ne_eq,not_false_eq_true,seval,-Int.reduceToNat,hr1,Zbx]
       rw[ak]
       refine⟨_,rfl,?_⟩
       refine⟨v4bx,v8bx,v10bx,?_,?_,?_,?_,?_,?_,?_,?_,?_,?_⟩
       all_goals first|rfl|(simp only[ay,ne_eq,not_false_eq_true,seval,-Int.reduceToNat,hr1,Zbx]<;>rfl)
      ·cases hh
       try simp only[ay,ne_eq,not_false_eq_true,seval,-Int.reduceToNat,hr1,Zbx]
       rw[ak]
       refine⟨_,rfl,?_⟩
       refine⟨v4bx,v8bx,v10bx,?_,?_,?_,?_,?_,?_,?_,?_,?_,?_⟩
       all_goals first|rfl|(simp only[ay,ne_eq,not_false_eq_true,seval,-Int.reduceToNat,hr1,Zbx]<;>rfl)
    ·dsimp only at hx hh
     obtain⟨rfl,hE⟩:=hx
     cases hh
     try simp only[aO,aG,aW,bX,bW]
     exact hE
 ·clear hh
  have hh:=ho2
  try simp only[ay,ne_eq,not_false_eq_true,seval,-Int.reduceToNat,hr1]
  refine sp aB hh (fun _ hh =>?_) (fun _ hh =>?_)
  ·cases hh
   try simp only[ay,ne_eq,not_false_eq_true,seval,-Int.reduceToNat,hr1]
   rw[ak]
   refine⟨_,rfl,?_⟩
   refine⟨0,0,0,?_,?_,?_,?_,?_,?_,?_,?_,?_,?_,?_⟩
   all_goals first|rfl|(simp only[ay,ne_eq,not_false_eq_true,seval,-Int.reduceToNat,hr1]<;>rfl)
  ·try simp only[ay,ne_eq,not_false_eq_true,seval,-Int.reduceToNat,hr1]
   refine sp aB hh (fun _ hh =>?_) (fun _ hh =>?_)
   ·cases hh
    try simp only[ay,ne_eq,not_false_eq_true,seval,-Int.reduceToNat,hr1]
    rw[ak]
    refine⟨_,rfl,?_⟩
    refine⟨0,0,0,?_,?_,?_,?_,?_,?_,?_,?_,?_,?_,?_⟩
    all_goals first|rfl|(simp only[ay,ne_eq,not_false_eq_true,seval,-Int.reduceToNat,hr1]<;>rfl)
   ·try simp only[ay,ne_eq,not_false_eq_true,seval,-Int.reduceToNat,hr1]
    refine sp aB hh (fun _ hh =>?_) (fun _ hh =>?_)
    ·cases hh
     try simp only[ay,ne_eq,not_false_eq_true,seval,-Int.reduceToNat,hr1]
     rw[ak]
     refine⟨_,rfl,?_⟩
     refine⟨0,0,0,?_,?_,?_,?_,?_,?_,?_,?_,?_,?_,?_⟩
     all_goals first|rfl|(simp only[ay,ne_eq,not_false_eq_true,seval,-Int.reduceToNat,hr1]<;>rfl)
    ·cases hh
     try simp only[ay,ne_eq,not_false_eq_true,seval,-Int.reduceToNat,hr1]
     rw[ak]
     refine⟨_,rfl,?_⟩
     refine⟨0,0,0,?_,?_,?_,?_,?_,?_,?_,?_,?_,?_,?_⟩
     all_goals first|rfl|(simp only[ay,ne_eq,not_false_eq_true,seval,-Int.reduceToNat,hr1]<;>rfl)
theorem F5:bE Tryz.prog 37 rS:=bE.of (mode := .clean) tok FB mixed Tryz.func37 (by kernel_rfl) ⟨by kernel_rfl,by kernel_rfl⟩ (fun _=>Nat.le_of_ble_eq_true (by kernel_rfl)) (fun x r h=>Jv x.1 x.2.1 x.2.2.1 x.2.2.2 r h)
noncomputable def kW:=dI (cH (eZ (eI .i64)) (dn (eZ (eI .i64)))) (fun x:(List Int)×(List Int)=>ey x.1 x.2) (fun r:Bool =>.clean (.bool r))
theorem gN (p0:(List Int)) (p1:(List Int)):kW none [.sl false false p0.length (ab (eI .i64) p0),.sl false false p1.length (ab (eI .i64) p1)]=(ey p0 p1).map fun r:Bool=>(.clean (.bool r),none):=aC _ _ _ (p0,p1)
theorem Ec (p0:(List Int)) (p1:(List Int)) (r:Bool) (hh:ey p0 p1=some r):aM .clean tab aU FU Tryz.f18 none [.sl false false p0.length (ab (eI .i64) p0),.sl false false p1.length (ab (eI .i64) p1)]=some (.clean (.bool r),none):=by
 refine aq rfl Tryz.ntmps18 Tryz.results18 ?_
 unfold ey at hh
 try simp only[w,seval,-Int.reduceToNat]
 refine sp aj hh (fun _ hh =>?_) (fun _ hh =>?_)
 ·cases hh
  try simp only[w,seval,-Int.reduceToNat]
 ·try simp only[w,seval,-Int.reduceToNat]
  obtain⟨o6,ho6,hh⟩:=ae hh
  refine ax (fun s t H e=>match s with|s5a=>t 0=.sl false false p0.length (ab (eI .i64) p0)∧t 1=.sl false false p1.length (ab (eI .i64) p1)∧t 5=.int .i64 s5a) (fun o x t H e=>match o with|(.inl _)=>x=.exit 0|(.inr r)=>x=.ret∧eW .clean tab none [.tmp 4] ⟨t,H,e⟩=some (.clean (.bool r),none)) ho6 ?_ ?_ ?_
  ·refine⟨?_,?_,?_⟩
   all_goals first|rfl|(simp only[w,seval,-Int.reduceToNat]<;>rfl)
  ·rintro s5a t H e Za c hh
   simp only[iG]at hh
   try simp only[w,seval,-Int.reduceToNat,Za]
   refine sp aj hh (fun _ hh =>?_) (fun _ hh =>?_)
   ·obtain⟨x8,hx8,hh⟩:=ae hh
    have ax8:=bF (eI .i64) hx8
    simp only[b6]at ax8
    obtain⟨x9,hx9,hh⟩:=ae hh
    have ax9:=bF (eI .i64) hx9
    simp only[b6]at ax9
    try simp only[w,seval,-Int.reduceToNat,Za,ax8,ax9]
    refine cf (by kernel_rfl) ?_
    try simp only[w,seval,-Int.reduceToNat,Za,ax8,ax9]
    refine sp aj hh (fun _ hh =>?_) (fun _ hh =>?_)
    ·cases hh
     try simp only[w,seval,-Int.reduceToNat,Za,ax8,ax9]
     refine pc ⟨rfl,?_⟩
     try simp only[w,seval,-Int.reduceToNat,Za,ax8,ax9]
    ·cases hh
     try simp only[w,seval,-Int.reduceToNat,Za,ax8,ax9]
     refine gA ?_
     refine⟨?_,?_,?_⟩
     all_goals first|rfl|(simp only[w,seval,-Int.reduceToNat,Za,ax8,ax9]<;>rfl)
   ·cases hh
    try simp only[w,seval,-Int.reduceToNat,Za]
    refine iS ?_
    exact rfl
  ·rintro x t H e hx
   rcases o6 with _|ra
   ·dsimp only at hx hh
    subst hx
    cases hh
    try simp only[w,seval,-Int.reduceToNat]
   ·dsimp only at hx hh
    obtain⟨rfl,hE⟩:=hx
    cases hh
    try simp only[aO,aG,aW,bX,bW]
    exact hE
theorem tM:bE Tryz.prog 18 kW:=bE.of (mode := .clean) tok bK.none mixed Tryz.func18 (by kernel_rfl) ⟨by kernel_rfl,by kernel_rfl⟩ (fun _=>Nat.le_of_ble_eq_true (by kernel_rfl)) (fun x r h=>Ec x.1 x.2 r h)
noncomputable def j7:=dI (dn (eZ (eI .i64))) (fun x:(List Int)=>gm x) (fun r:(List Int) =>.clean (.sl false false r.length (ab (eI .i64) r)))
theorem fO (p0:(List Int)):j7 none [.sl false false p0.length (ab (eI .i64) p0)]=(gm p0).map fun r:(List Int)=>(.clean (.sl false false r.length (ab (eI .i64) r)),none):=aC _ _ _ (p0)
theorem O8 (p0:(List Int)) (r:(List Int)) (hh:gm p0=some r):aM .clean tab aU FU Tryz.f169 none [.sl false false p0.length (ab (eI .i64) p0)]=some (.clean (.sl false false r.length (ab (eI .i64) r)),none):=by
 refine aq rfl Tryz.ntmps169 Tryz.results169 ?_
 unfold gm at hh
 try simp only[w,seval,-Int.reduceToNat]
 obtain⟨o4,ho4,hh⟩:=ae hh
 refine ax (fun s t H e=>match s with|s3a=>t 0=.sl false false p0.length (ab (eI .i64) p0)∧t 3=.int .i64 s3a) (fun o x t H e=>match o with|s3ax=>x=.exit 0∧t 0=.sl false false p0.length (ab (eI .i64) p0)∧t 3=.int .i64 s3ax) ho4 ?_ ?_ ?_
 ·refine⟨?_,?_⟩
  all_goals first|rfl|(simp only[w,seval,-Int.reduceToNat]<;>rfl)
 ·rintro s3a t H e Za c hh
  simp only[vl]at hh
  try simp only[w,seval,-Int.reduceToNat,Za]
  refine sp bd hh (fun _ hh =>?_) (fun _ hh =>?_)
  ·obtain⟨x6,hx6,hh⟩:=ae hh
   have ax6:=bF (eI .i64) hx6
   simp only[b6]at ax6
   try simp only[w,seval,-Int.reduceToNat,Za,ax6]
   refine sp aj hh (fun _ hh =>?_) (fun _ hh =>?_)
   ·cases hh
    try simp only[w,seval,-Int.reduceToNat,Za,ax6]
    refine gA ?_
    refine⟨?_,?_⟩
    all_goals first|rfl|(simp only[w,seval,-Int.reduceToNat,Za,ax6]<;>rfl)
   ·cases hh
    try simp only[w,seval,-Int.reduceToNat,Za,ax6]
    refine iS ?_
    refine⟨rfl,⟨?_,?_⟩⟩
    all_goals first|rfl|(simp only[w,seval,-Int.reduceToNat,Za,ax6]<;>rfl)
  ·cases hh
   try simp only[w,seval,-Int.reduceToNat,Za]
   refine iS ?_
   refine⟨rfl,⟨?_,?_⟩⟩
   all_goals first|rfl|(simp only[w,seval,-Int.reduceToNat,Za]<;>rfl)
 ·rintro x t H e hx
  obtain⟨s3ax,rfl⟩:∃z,z=o4:=⟨_,rfl⟩
  dsimp only at hx hh
  obtain⟨rfl,Zax⟩:=hx
  obtain⟨x8,hx8,hh⟩:=ae hh
  obtain⟨q9a,q9b,q9c,q9d,q9e⟩:=E2 (eI .i64) hx8
  simp only[b6]at q9e
  obtain⟨x10,hx10,hh⟩:=ae hh
  obtain⟨q11a,q11b,q11c⟩:=rX hx10
  replace q11a:=q11a.symm
  subst q11a
  cases hh
  try simp only[w,seval,-Int.reduceToNat,Zax,q9a,q9b,q9c,q9d,q9e,q11b,q11c]
theorem mW:bE Tryz.prog 169 j7:=bE.of (mode := .clean) tok bK.none mixed Tryz.func169 (by kernel_rfl) ⟨by kernel_rfl,by kernel_rfl⟩ (fun _=>Nat.le_of_ble_eq_true (by kernel_rfl)) (fun x r h=>O8 x r h)
noncomputable def j6:=dI (cH (aI .i64) (dn (eZ (eI .i64)))) (fun x:Int×(List Int)=>fi x.1 x.2) (fun r:aw =>.clean (.agg [.int .i64 r.ah,.sl false false r.aa.length (ab (eI .i64) r.aa)]))
theorem gB (p0:Int) (p1:(List Int)):j6 none [.int .i64 p0,.sl false false p1.length (ab (eI .i64) p1)]=(fi p0 p1).map fun r:aw=>(.clean (.agg [.int .i64 r.ah,.sl false false r.aa.length (ab (eI .i64) r.aa)]),none):=aC _ _ _ (p0,p1)
noncomputable def sw:Env:=(Am.ext aU 169 false j7)
theorem LD:bK Tryz.prog sw:=(bK.none.add mW false)
theorem xZ:type_of% (ai @w<|ai @fO<|@sw.eq_1):=⟨@w,@fO,@sw.eq_1⟩
theorem O5 (p0:Int) (p1:(List Int)) (r:aw) (hh:fi p0 p1=some r):aM .clean tab sw FU Tryz.f133 none [.int .i64 p0,.sl false false p1.length (ab (eI .i64) p1)]=some (.clean (.agg [.int .i64 r.ah,.sl false false r.aa.length (ab (eI .i64) r.aa)]),none):=by
 refine aq rfl Tryz.ntmps133 Tryz.results133 ?_
 unfold fi at hh
 obtain⟨r1,hr1,hh⟩:=ae hh
 try simp only[xZ,seval,-Int.reduceToNat,hr1]
 refine sp aj hh (fun _ hh =>?_) (fun _ hh =>?_)
 ·cases hh
  try simp only[xZ,seval,-Int.reduceToNat,hr1]
 ·cases hh
  try simp only[xZ,seval,-Int.reduceToNat,hr1]
theorem mV:bE Tryz.prog 133 j6:=bE.of (mode := .clean) tok LD mixed Tryz.func133 (by kernel_rfl) ⟨by kernel_rfl,by kernel_rfl⟩ (fun _=>Nat.le_of_ble_eq_true (by kernel_rfl)) (fun x r h=>O5 x.1 x.2 r h)
noncomputable def yb:=dI (dn (aI .i64)) (fun x:Int=>sW x) (fun r:aw =>.clean (.agg [.int .i64 r.ah,.sl false false r.aa.length (ab (eI .i64) r.aa)]))
theorem zg (p0:Int):yb none [.int .i64 p0]=(sW p0).map fun r:aw=>(.clean (.agg [.int .i64 r.ah,.sl false false r.aa.length (ab (eI .i64) r.aa)]),none):=aC _ _ _ (p0)
noncomputable def yM:Env:=(Am.ext aU 133 false j6)
theorem SI:bK Tryz.prog yM:=(bK.none.add mV false)
theorem eB:type_of% (ai @w<|ai @gB<|@yM.eq_1):=⟨@w,@gB,@yM.eq_1⟩
theorem Ve (p0:Int) (r:aw) (hh:sW p0=some r):aM .clean tab yM FU Tryz.f103 none [.int .i64 p0]=some (.clean (.agg [.int .i64 r.ah,.sl false false r.aa.length (ab (eI .i64) r.aa)]),none):=by
 refine aq rfl Tryz.ntmps103 Tryz.results103 ?_
 unfold sW at hh
 try simp only[eB,seval,-Int.reduceToNat]
 refine sp aj hh (fun _ hh =>?_) (fun _ hh =>?_)
 ·cases hh
  try simp only[eB,seval,-Int.reduceToNat]
 ·try simp only[eB,seval,-Int.reduceToNat]
  obtain⟨o2,ho2,hh⟩:=ae hh
  refine ns 0 (fun s t H e=>match s with|s3j1=>∃v2j1:Nat,t 0=.int .i64 p0∧t 2=.ptr 2 v2j1 0∧t 3=.int .i64 s3j1∧H 2=some ⟨v2j1,49,[.int .i64 0,.sl true true 0 []],false,false,false⟩) (fun s=>s=o2) ?_ ?_
  ·rintro s3j1 t H e ⟨v2j1,Zj1⟩ rfl
   try dsimp only at hh
   try simp only[eB,seval,-Int.reduceToNat,Zj1]
   obtain⟨o15,ho15,hh⟩:=ae hh
   refine ax (fun s t H e=>match s with|(s0b,l4b)=>∃v2b:Nat,∃v4b:Nat,t 0=.int .i64 s0b∧t 2=.ptr 2 v2b 0∧t 3=.int .i64 s3j1∧t 4=.buf 4 v4b 1 0 (l4b).length∧H 2=some ⟨v2b,49,[.int .i64 0,.sl true true 0 []],false,false,false⟩∧H 4=some ⟨v4b,3,ab (eI .i64) l4b,false,true,false⟩) (fun o x t H e=>match o with|l4bx=>x=.exit 0∧∃v2bx:Nat,∃v4bx:Nat,t 2=.ptr 2 v2bx 0∧t 3=.int .i64 s3j1∧t 4=.buf 4 v4bx 1 0 (l4bx).length∧H 2=some ⟨v2bx,49,[.int .i64 0,.sl true true 0 []],false,false,false⟩∧H 4=some ⟨v4bx,3,ab (eI .i64) l4bx,false,true,false⟩) ho15 ?_ ?_ ?_
   ·refine⟨v2j1,e,?_,?_,?_,?_,?_,?_⟩
    all_goals first|rfl|(simp only[eB,seval,-Int.reduceToNat,Zj1]<;>rfl)
   ·rintro⟨s0b,l4b⟩ t H e ⟨v2b,v4b,Zb⟩ c hh
    simp only[wb]at hh
    try simp only[eB,seval,-Int.reduceToNat,Zb]
    refine sp aj hh (fun _ hh =>?_) (fun _ hh =>?_)
    ·obtain⟨x17,hx17,hh⟩:=ae hh
     have q18:=qo hx17
     try simp only[eB,seval,-Int.reduceToNat,Zb,q18]
     refine sp aj hh (fun _ hh =>?_) (fun _ hh =>?_)
     ·obtain⟨x20,hx20,hh⟩:=ae hh
      obtain⟨q21a,q21b,q21c,q21d⟩:=fa (eI .i64) hx20
      simp only[b6]at q21b
      obtain⟨x22,hx22,hh⟩:=ae hh
      have q23:=sj hx22
      cases hh
      try simp only[eB,seval,-Int.reduceToNat,Zb,q18,q21a,q21b,q21c,q21d,q23]
      refine gA ?_
      refine⟨v2b,e+1+1+1+1,?_,?_,?_,?_,?_,?_⟩
      all_goals first|rfl|(simp only[eB,seval,-Int.reduceToNat,Zb,q18,q21a,q21b,q21c,q21d,q23]<;>rfl)
     ·obtain⟨x24,hx24,hh⟩:=ae hh
      obtain⟨q25a,q25b,q25c,q25d⟩:=fa (eI .i64) hx24
      simp only[b6]at q25b
      obtain⟨x26,hx26,hh⟩:=ae hh
      have q27:=sj hx26
      cases hh
      try simp only[eB,seval,-Int.reduceToNat,Zb,q18,q25a,q25b,q25c,q25d,q27]
      refine gA ?_
      refine⟨v2b,e+1+1+1,?_,?_,?_,?_,?_,?_⟩
      all_goals first|rfl|(simp only[eB,seval,-Int.reduceToNat,Zb,q18,q25a,q25b,q25c,q25d,q27]<;>rfl)
    ·cases hh
     try simp only[eB,seval,-Int.reduceToNat,Zb]
     refine iS ?_
     refine⟨rfl,⟨v2b,v4b,?_,?_,?_,?_,?_⟩⟩
     all_goals first|rfl|(simp only[eB,seval,-Int.reduceToNat,Zb]<;>rfl)
   ·rintro x t H e hx
    obtain⟨l4bx,rfl⟩:∃z,z=o15:=⟨_,rfl⟩
    dsimp only at hx hh
    obtain⟨rfl,⟨v2bx,v4bx,Zbx⟩⟩:=hx
    obtain⟨r28,hr28,hh⟩:=ae hh
    cases hh
    try simp only[eB,seval,-Int.reduceToNat,Zbx,hr28]
  ·clear hh
   have hh:=ho2
   try simp only[eB,seval,-Int.reduceToNat]
   refine sp aj hh (fun _ hh =>?_) (fun _ hh =>?_)
   ·cases hh
    try simp only[eB,seval,-Int.reduceToNat]
    rw[ak]
    refine⟨_,rfl,?_⟩
    refine⟨0,?_,?_,?_,?_⟩
    all_goals first|rfl|(simp only[eB,seval,-Int.reduceToNat]<;>rfl)
   ·cases hh
    try simp only[eB,seval,-Int.reduceToNat]
    rw[ak]
    refine⟨_,rfl,?_⟩
    refine⟨0,?_,?_,?_,?_⟩
    all_goals first|rfl|(simp only[eB,seval,-Int.reduceToNat]<;>rfl)
theorem HK:bE Tryz.prog 103 yb:=bE.of (mode := .clean) tok SI mixed Tryz.func103 (by kernel_rfl) ⟨by kernel_rfl,by kernel_rfl⟩ (fun _=>Nat.le_of_ble_eq_true (by kernel_rfl)) (fun x r h=>Ve x r h)
noncomputable def fU:=dI (dn (cI fM)) (fun x:aw=>du x) (fun r:Bool =>.clean (.bool r))
theorem dG (p0_0:Int) (p0_1:(List Int)):fU none [.agg [.int .i64 p0_0,.sl false false p0_1.length (ab (eI .i64) p0_1)]]=(du (aw.mk p0_0 p0_1)).map fun r:Bool=>(.clean (.bool r),none):=aC _ _ _ ((aw.mk p0_0 p0_1))
theorem Mq (p0:aw) (r:Bool) (hh:du p0=some r):aM .clean tab aU FU Tryz.f111 none [.agg [.int .i64 p0.ah,.sl false false p0.aa.length (ab (eI .i64) p0.aa)]]=some (.clean (.bool r),none):=by
 refine aq rfl Tryz.ntmps111 Tryz.results111 ?_
 unfold du at hh
 try simp only[w,seval,-Int.reduceToNat]
 obtain⟨o5,ho5,hh⟩:=ae hh
 refine ax (fun s t H e=>match s with|s3a=>∃v1a:Nat,t 1=.ptr 1 v1a 0∧t 3=.int .i64 s3a∧H 1=some ⟨v1a,49,[.int .i64 p0.ah,.sl false false p0.aa.length (ab (eI .i64) p0.aa)],false,false,false⟩) (fun o x t H e=>match o with|(.inl _)=>x=.exit 0∧∃v1ax:Nat,t 1=.ptr 1 v1ax 0∧H 1=some ⟨v1ax,49,[.int .i64 p0.ah,.sl false false p0.aa.length (ab (eI .i64) p0.aa)],false,false,false⟩|(.inr r)=>x=.ret∧eW .clean tab none [.tmp 2] ⟨t,H,e⟩=some (.clean (.bool r),none)) ho5 ?_ ?_ ?_
 ·refine⟨0,?_,?_,?_⟩
  all_goals first|rfl|(simp only[w,seval,-Int.reduceToNat]<;>rfl)
 ·rintro s3a t H e ⟨v1a,Za⟩ c hh
  simp only[ow]at hh
  try simp only[w,seval,-Int.reduceToNat,Za]
  refine sp aj hh (fun _ hh =>?_) (fun _ hh =>?_)
  ·obtain⟨x7,hx7,hh⟩:=ae hh
   have ax7:=bF (eI .i64) hx7
   simp only[b6]at ax7
   try simp only[w,seval,-Int.reduceToNat,Za,ax7]
   refine sp aB hh (fun _ hh =>?_) (fun _ hh =>?_)
   ·cases hh
    try simp only[w,seval,-Int.reduceToNat,Za,ax7]
    refine pc ⟨rfl,?_⟩
    try simp only[w,seval,-Int.reduceToNat,Za,ax7]
   ·have ax7:=bF (eI .i64) hx7
    simp only[b6]at ax7
    try simp only[w,seval,-Int.reduceToNat,Za,ax7,ax7]
    refine sp aj hh (fun _ hh =>?_) (fun _ hh =>?_)
    ·cases hh
     try simp only[w,seval,-Int.reduceToNat,Za,ax7,ax7]
     refine pc ⟨rfl,?_⟩
     try simp only[w,seval,-Int.reduceToNat,Za,ax7,ax7]
    ·cases hh
     try simp only[w,seval,-Int.reduceToNat,Za,ax7,ax7]
     refine gA ?_
     refine⟨v1a,?_,?_,?_⟩
     all_goals first|rfl|(simp only[w,seval,-Int.reduceToNat,Za,ax7,ax7]<;>rfl)
  ·cases hh
   try simp only[w,seval,-Int.reduceToNat,Za]
   refine iS ?_
   refine⟨rfl,⟨v1a,?_,?_⟩⟩
   all_goals first|rfl|(simp only[w,seval,-Int.reduceToNat,Za]<;>rfl)
 ·rintro x t H e hx
  rcases o5 with _|ra
  ·dsimp only at hx hh
   obtain⟨rfl,⟨v1ax,Zax⟩⟩:=hx
   try simp only[w,seval,-Int.reduceToNat,Zax]
   obtain⟨o10,ho10,hh⟩:=ae hh
   refine bA 0 (fun s t H e=>match s with|s44j2=>∃v1j2:Nat,t 1=.ptr 1 v1j2 0∧t 4=.int .i64 (p0.aa.length:Int)∧t 44=.bool s44j2∧H 1=some ⟨v1j2,49,[.int .i64 p0.ah,.sl false false p0.aa.length (ab (eI .i64) p0.aa)],false,false,false⟩) (fun s=>s=o10) ?_ ?_
   ·rintro s44j2 t H e ⟨v1j2,Zj2⟩ rfl
    try dsimp only at hh
    try simp only[w,seval,-Int.reduceToNat,Zj2]
    refine sp aj hh (fun _ hh =>?_) (fun _ hh =>?_)
    ·cases hh
     try simp only[w,seval,-Int.reduceToNat,Zj2]
    ·try simp only[w,seval,-Int.reduceToNat,Zj2]
     refine sp aB hh (fun _ hh =>?_) (fun _ hh =>?_)
     ·cases hh
      try simp only[w,seval,-Int.reduceToNat,Zj2]
     ·obtain⟨x13,hx13,hh⟩:=ae hh
      have ax13:=bF (eI .i64) hx13
      simp only[b6]at ax13
      cases hh
      try simp only[w,seval,-Int.reduceToNat,Zj2,ax13]
   ·clear hh
    have hh:=ho10
    try simp only[w,seval,-Int.reduceToNat,Zax]
    refine sp aB hh (fun _ hh =>?_) (fun _ hh =>?_)
    ·cases hh
     try simp only[w,seval,-Int.reduceToNat,Zax]
     rw[ak]
     refine⟨_,rfl,?_⟩
     refine⟨v1ax,?_,?_,?_,?_⟩
     all_goals first|rfl|(simp only[w,seval,-Int.reduceToNat,Zax]<;>rfl)
    ·try simp only[w,seval,-Int.reduceToNat,Zax]
     refine sp aB hh (fun _ hh =>?_) (fun _ hh =>?_)
     ·cases hh
      try simp only[w,seval,-Int.reduceToNat,Zax]
      rw[ak]
      refine⟨_,rfl,?_⟩
      refine⟨v1ax,?_,?_,?_,?_⟩
      all_goals first|rfl|(simp only[w,seval,-Int.reduceToNat,Zax]<;>rfl)
     ·cases hh
      try simp only[w,seval,-Int.reduceToNat,Zax]
      rw[ak]
      refine⟨_,rfl,?_⟩
      refine⟨v1ax,?_,?_,?_,?_⟩
      all_goals first|rfl|(simp only[w,seval,-Int.reduceToNat,Zax]<;>rfl)
  ·dsimp only at hx hh
   obtain⟨rfl,hE⟩:=hx
   cases hh
   try simp only[aO,aG,aW,bX,bW]
   exact hE
theorem ir:bE Tryz.prog 111 fU:=bE.of (mode := .clean) tok bK.none mixed Tryz.func111 (by kernel_rfl) ⟨by kernel_rfl,by kernel_rfl⟩ (fun _=>Nat.le_of_ble_eq_true (by kernel_rfl)) (fun x r h=>Mq x r h)
noncomputable def zL:=dI (dn (cI fM)) (fun x:aw=>qD x) (fun r:aw =>.clean (.agg [.int .i64 r.ah,.sl false false r.aa.length (ab (eI .i64) r.aa)]))
theorem HY (p0_0:Int) (p0_1:(List Int)):zL none [.agg [.int .i64 p0_0,.sl false false p0_1.length (ab (eI .i64) p0_1)]]=(qD (aw.mk p0_0 p0_1)).map fun r:aw=>(.clean (.agg [.int .i64 r.ah,.sl false false r.aa.length (ab (eI .i64) r.aa)]),none):=aC _ _ _ ((aw.mk p0_0 p0_1))
noncomputable def vQ:Env:=(Am.ext (Am.ext aU 111 false fU) 133 false j6)
theorem OL:bK Tryz.prog vQ:=((bK.none.add ir false).add mV false)
theorem AN:type_of% (ai @w<|ai @dG<|ai @gB<|@vQ.eq_1):=⟨@w,@dG,@gB,@vQ.eq_1⟩
theorem SW (p0:aw) (r:aw) (hh:qD p0=some r):aM .clean tab vQ FU Tryz.f131 none [.agg [.int .i64 p0.ah,.sl false false p0.aa.length (ab (eI .i64) p0.aa)]]=some (.clean (.agg [.int .i64 r.ah,.sl false false r.aa.length (ab (eI .i64) r.aa)]),none):=by
 refine aq rfl Tryz.ntmps131 Tryz.results131 ?_
 unfold qD at hh
 obtain⟨r1,hr1,hh⟩:=ae hh
 try simp only[AN,seval,-Int.reduceToNat,hr1]
 refine sp aj hh (fun _ hh =>?_) (fun _ hh =>?_)
 ·cases hh
  try simp only[AN,seval,-Int.reduceToNat,hr1]
 ·obtain⟨r3,hr3,hh⟩:=ae hh
  cases hh
  try simp only[AN,seval,-Int.reduceToNat,hr1,hr3]
theorem Pt:bE Tryz.prog 131 zL:=bE.of (mode := .clean) tok OL mixed Tryz.func131 (by kernel_rfl) ⟨by kernel_rfl,by kernel_rfl⟩ (fun _=>Nat.le_of_ble_eq_true (by kernel_rfl)) (fun x r h=>SW x r h)
noncomputable def km:=dI (cH (eZ (eI .i64)) (dn (aI .i64))) (fun x:(List Int)×Int=>fT x.1 x.2) (fun r:Int =>.clean (.int .i64 r))
theorem ia (p0:(List Int)) (p1:Int):km none [.sl false false p0.length (ab (eI .i64) p0),.int .i64 p1]=(fT p0 p1).map fun r:Int=>(.clean (.int .i64 r),none):=aC _ _ _ (p0,p1)
theorem Mr (p0:(List Int)) (p1:Int) (r:Int) (hh:fT p0 p1=some r):aM .clean tab aU FU Tryz.f175 none [.sl false false p0.length (ab (eI .i64) p0),.int .i64 p1]=some (.clean (.int .i64 r),none):=by
 refine aq rfl Tryz.ntmps175 Tryz.results175 ?_
 unfold fT at hh
 try simp only[w,seval,-Int.reduceToNat]
 refine sp aj hh (fun _ hh =>?_) (fun _ hh =>?_)
 ·obtain⟨x2,hx2,hh⟩:=ae hh
  have ax2:=bF (eI .i64) hx2
  simp only[b6]at ax2
  cases hh
  try simp only[w,seval,-Int.reduceToNat,ax2]
 ·cases hh
  try simp only[w,seval,-Int.reduceToNat]
theorem oe:bE Tryz.prog 175 km:=bE.of (mode := .clean) tok bK.none mixed Tryz.func175 (by kernel_rfl) ⟨by kernel_rfl,by kernel_rfl⟩ (fun _=>Nat.le_of_ble_eq_true (by kernel_rfl)) (fun x r h=>Mr x.1 x.2 r h)
noncomputable def pI:=dI (cH (eZ (eI .i64)) (dn (eZ (eI .i64)))) (fun x:(List Int)×(List Int)=>jv x.1 x.2) (fun r:(List Int) =>.clean (.sl false false r.length (ab (eI .i64) r)))
theorem mY (p0:(List Int)) (p1:(List Int)):pI none [.sl false false p0.length (ab (eI .i64) p0),.sl false false p1.length (ab (eI .i64) p1)]=(jv p0 p1).map fun r:(List Int)=>(.clean (.sl false false r.length (ab (eI .i64) r)),none):=aC _ _ _ (p0,p1)
noncomputable def pV:Env:=(Am.ext (Am.ext aU 169 false j7) 175 false km)
theorem I5:bK Tryz.prog pV:=((bK.none.add mW false).add oe false)
theorem cj:type_of% (ai @w<|ai @fO<|ai @ia<|@pV.eq_1):=⟨@w,@fO,@ia,@pV.eq_1⟩
theorem Mt (p0:(List Int)) (p1:(List Int)) (r:(List Int)) (hh:jv p0 p1=some r):aM .clean tab pV FU Tryz.f154 none [.sl false false p0.length (ab (eI .i64) p0),.sl false false p1.length (ab (eI .i64) p1)]=some (.clean (.sl false false r.length (ab (eI .i64) r)),none):=by
 refine aq rfl Tryz.ntmps154 Tryz.results154 ?_
 unfold jv at hh
 obtain⟨x1,hx1,hh⟩:=ae hh
 obtain⟨q2a,q2b,q2c,q2d,q2e⟩:=mk_one (eI .i64) hx1
 simp only[b6]at q2d
 try simp only[cj,seval,-Int.reduceToNat,q2a,q2b,q2c,q2d,q2e]
 obtain⟨o27,ho27,hh⟩:=ae hh
 refine ax (fun s t H e=>match s with|(s6a,l5a)=>∃v5a:Nat,t 0=.sl false false p0.length (ab (eI .i64) p0)∧t 1=.sl false false p1.length (ab (eI .i64) p1)∧t 5=.buf 5 v5a 1 0 (l5a).length∧t 6=.int .i64 s6a∧H 5=some ⟨v5a,3,ab (eI .i64) l5a,false,true,false⟩) (fun o x t H e=>match o with|l5ax=>x=.exit 0∧∃v5ax:Nat,t 5=.buf 5 v5ax 1 0 (l5ax).length∧H 5=some ⟨v5ax,3,ab (eI .i64) l5ax,false,true,false⟩) ho27 ?_ ?_ ?_
 ·refine⟨1,?_,?_,?_,?_,?_⟩
  all_goals first|rfl|(simp only[cj,seval,-Int.reduceToNat,q2a,q2b,q2c,q2d,q2e]<;>rfl)
 ·rintro⟨s6a,l5a⟩ t H e ⟨v5a,Za⟩ c hh
  simp only[oz]at hh
  try simp only[cj,seval,-Int.reduceToNat,q2a,q2b,q2c,q2d,q2e,Za]
  refine sp aj hh (fun _ hh =>?_) (fun _ hh =>?_)
  ·try simp only[cj,seval,-Int.reduceToNat,q2a,q2b,q2c,q2d,q2e,Za]
   obtain⟨o40,ho40,hh⟩:=ae hh
   refine ax (fun s t H e=>match s with|(s7e,s8e,l5e)=>∃v5e:Nat,t 0=.sl false false p0.length (ab (eI .i64) p0)∧t 1=.sl false false p1.length (ab (eI .i64) p1)∧t 5=.buf 5 v5e 1 0 (l5e).length∧t 6=.int .i64 s6a∧t 7=.int .i64 s7e∧t 8=.int .i64 s8e∧H 5=some ⟨v5e,3,ab (eI .i64) l5e,false,true,false⟩) (fun o x t H e=>match o with|l5ex=>x=.exit 2∧∃v5ex:Nat,t 0=.sl false false p0.length (ab (eI .i64) p0)∧t 1=.sl false false p1.length (ab (eI .i64) p1)∧t 5=.buf 5 v5ex 1 0 (l5ex).length∧t 6=.int .i64 s6a∧H 5=some ⟨v5ex,3,ab (eI .i64) l5ex,false,true,false⟩) ho40 ?_ ?_ ?_
   ·refine⟨v5a,?_,?_,?_,?_,?_,?_,?_⟩
    all_goals first|rfl|(simp only[cj,seval,-Int.reduceToNat,q2a,q2b,q2c,q2d,q2e,Za]<;>rfl)
   ·rintro⟨s7e,s8e,l5e⟩ t H e ⟨v5e,Ze⟩ c hh
    simp only[oA]at hh
    try simp only[cj,seval,-Int.reduceToNat,q2a,q2b,q2c,q2d,q2e,Ze]
    obtain⟨o41,ho41,hh⟩:=ae hh
    refine bA 0 (fun s t H e=>match s with|s29j7=>∃v5j7:Nat,t 0=.sl false false p0.length (ab (eI .i64) p0)∧t 1=.sl false false p1.length (ab (eI .i64) p1)∧t 5=.buf 5 v5j7 1 0 (l5e).length∧t 6=.int .i64 s6a∧t 7=.int .i64 s7e∧t 8=.int .i64 s8e∧t 29=.bool s29j7∧H 5=some ⟨v5j7,3,ab (eI .i64) l5e,false,true,false⟩) (fun s=>s=o41) ?_ ?_
    ·rintro s29j7 t H e ⟨v5j7,Zj7⟩ rfl
     try dsimp only at hh
     try simp only[cj,seval,-Int.reduceToNat,q2a,q2b,q2c,q2d,q2e,Zj7]
     refine sp aj hh (fun _ hh =>?_) (fun _ hh =>?_)
     ·obtain⟨x43,hx43,hh⟩:=ae hh
      have ax43:=bF (eI .i64) hx43
      simp only[b6]at ax43
      obtain⟨x44,hx44,hh⟩:=ae hh
      have ax44:=bF (eI .i64) hx44
      simp only[b6]at ax44
      obtain⟨r45,hr45,hh⟩:=ae hh
      try simp only[cj,seval,-Int.reduceToNat,q2a,q2b,q2c,q2d,q2e,Zj7,ax43,ax44,hr45]
      refine cf (by kernel_rfl) ?_
      obtain⟨x46,hx46,hh⟩:=ae hh
      have q47:=qo hx46
      have ax43:=bF (eI .i64) hx43
      simp only[b6]at ax43
      have p48:=qt (eI .i64) (x':=x46) (fo:=0) (cs:=[.int .i64 x46]) hx43 rfl (Nat.le_of_ble_eq_true rfl)
      simp only[b6,Nat.add_zero]at p48
      have up48:=p48
      simp only[putCells,List.length_cons,List.length_nil,Nat.zero_add,Nat.reduceAdd]at up48
      obtain⟨x49,hx49,hh⟩:=ae hh
      have q50:=sj hx49
      cases hh
      try simp only[cj,seval,-Int.reduceToNat,q2a,q2b,q2c,q2d,q2e,Zj7,ax43,ax44,hr45,q47,ax43,p48,up48,q50]
      refine gA ?_
      refine⟨v5j7,?_,?_,?_,?_,?_,?_,?_⟩
      all_goals first|rfl|(simp only[cj,seval,-Int.reduceToNat,q2a,q2b,q2c,q2d,q2e,Zj7,ax43,ax44,hr45,q47,ax43,p48,up48,q50]<;>rfl)
     ·cases hh
      try simp only[cj,seval,-Int.reduceToNat,q2a,q2b,q2c,q2d,q2e,Zj7]
      refine iS ?_
      refine⟨rfl,⟨v5j7,?_,?_,?_,?_,?_⟩⟩
      all_goals first|rfl|(simp only[cj,seval,-Int.reduceToNat,q2a,q2b,q2c,q2d,q2e,Zj7]<;>rfl)
    ·clear hh
     have hh:=ho41
     try simp only[cj,seval,-Int.reduceToNat,q2a,q2b,q2c,q2d,q2e,Ze]
     refine sp aB hh (fun _ hh =>?_) (fun _ hh =>?_)
     ·cases hh
      try simp only[cj,seval,-Int.reduceToNat,q2a,q2b,q2c,q2d,q2e,Ze]
      rw[ak]
      refine⟨_,rfl,?_⟩
      refine⟨v5e,?_,?_,?_,?_,?_,?_,?_,?_⟩
      all_goals first|rfl|(simp only[cj,seval,-Int.reduceToNat,q2a,q2b,q2c,q2d,q2e,Ze]<;>rfl)
     ·cases hh
      try simp only[cj,seval,-Int.reduceToNat,q2a,q2b,q2c,q2d,q2e,Ze]
      rw[ak]
      refine⟨_,rfl,?_⟩
      refine⟨v5e,?_,?_,?_,?_,?_,?_,?_,?_⟩
      all_goals first|rfl|(simp only[cj,seval,-Int.reduceToNat,q2a,q2b,q2c,q2d,q2e,Ze]<;>rfl)
   ·rintro x t H e hx
    obtain⟨l5ex,rfl⟩:∃z,z=o40:=⟨_,rfl⟩
    dsimp only at hx hh
    obtain⟨rfl,⟨v5ex,Zex⟩⟩:=hx
    cases hh
    try simp only[cj,seval,-Int.reduceToNat,q2a,q2b,q2c,q2d,q2e,Zex]
    refine gA ?_
    refine⟨v5ex,?_,?_,?_,?_,?_⟩
    all_goals first|rfl|(simp only[cj,seval,-Int.reduceToNat,q2a,q2b,q2c,q2d,q2e,Zex]<;>rfl)
  ·cases hh
   try simp only[cj,seval,-Int.reduceToNat,q2a,q2b,q2c,q2d,q2e,Za]
   refine iS ?_
   refine⟨rfl,⟨v5a,?_,?_⟩⟩
   all_goals first|rfl|(simp only[cj,seval,-Int.reduceToNat,q2a,q2b,q2c,q2d,q2e,Za]<;>rfl)
 ·rintro x t H e hx
  obtain⟨l5ax,rfl⟩:∃z,z=o27:=⟨_,rfl⟩
  dsimp only at hx hh
  obtain⟨rfl,⟨v5ax,Zax⟩⟩:=hx
  obtain⟨r52,hr52,hh⟩:=ae hh
  cases hh
  try simp only[cj,seval,-Int.reduceToNat,q2a,q2b,q2c,q2d,q2e,Zax,hr52]
theorem y6:bE Tryz.prog 154 pI:=bE.of (mode := .clean) tok I5 mixed Tryz.func154 (by kernel_rfl) ⟨by kernel_rfl,by kernel_rfl⟩ (fun _=>Nat.le_of_ble_eq_true (by kernel_rfl)) (fun x r h=>Mt x.1 x.2 r h)
noncomputable def rL:=dI (cH (eZ (eI .i64)) (dn (eZ (eI .i64)))) (fun x:(List Int)×(List Int)=>nd x.1 x.2) (fun r:Bool =>.clean (.bool r))
theorem sQ (p0:(List Int)) (p1:(List Int)):rL none [.sl false false p0.length (ab (eI .i64) p0),.sl false false p1.length (ab (eI .i64) p1)]=(nd p0 p1).map fun r:Bool=>(.clean (.bool r),none):=aC _ _ _ (p0,p1)
noncomputable def su:Env:=(Am.ext aU 175 false km)
theorem LC:bK Tryz.prog su:=(bK.none.add oe false)
theorem gE:type_of% (ai @w<|ai @ia<|@su.eq_1):=⟨@w,@ia,@su.eq_1⟩
theorem O4 (p0:(List Int)) (p1:(List Int)) (r:Bool) (hh:nd p0 p1=some r):aM .clean tab su FU Tryz.f153 none [.sl false false p0.length (ab (eI .i64) p0),.sl false false p1.length (ab (eI .i64) p1)]=some (.clean (.bool r),none):=by
 refine aq rfl Tryz.ntmps153 Tryz.results153 ?_
 unfold nd at hh
 try simp only[gE,seval,-Int.reduceToNat]
 obtain⟨o5,ho5,hh⟩:=ae hh
 refine ax (fun s t H e=>match s with|s5a=>t 0=.sl false false p0.length (ab (eI .i64) p0)∧t 1=.sl false false p1.length (ab (eI .i64) p1)∧t 5=.int .i64 s5a) (fun o x t H e=>match o with|(.inl _)=>x=.exit 0|(.inr r)=>x=.ret∧eW .clean tab none [.tmp 4] ⟨t,H,e⟩=some (.clean (.bool r),none)) ho5 ?_ ?_ ?_
 ·refine⟨?_,?_,?_⟩
  all_goals first|rfl|(simp only[gE,seval,-Int.reduceToNat]<;>rfl)
 ·rintro s5a t H e Za c hh
  simp only[qF]at hh
  try simp only[gE,seval,-Int.reduceToNat,Za]
  refine sp aj hh (fun _ hh =>?_) (fun _ hh =>?_)
  ·obtain⟨r7,hr7,hh⟩:=ae hh
   obtain⟨r8,hr8,hh⟩:=ae hh
   try simp only[gE,seval,-Int.reduceToNat,Za,hr7,hr8]
   refine sp aj hh (fun _ hh =>?_) (fun _ hh =>?_)
   ·cases hh
    try simp only[gE,seval,-Int.reduceToNat,Za,hr7,hr8]
    refine pc ⟨rfl,?_⟩
    try simp only[gE,seval,-Int.reduceToNat,Za,hr7,hr8]
   ·cases hh
    try simp only[gE,seval,-Int.reduceToNat,Za,hr7,hr8]
    refine gA ?_
    refine⟨?_,?_,?_⟩
    all_goals first|rfl|(simp only[gE,seval,-Int.reduceToNat,Za,hr7,hr8]<;>rfl)
  ·cases hh
   try simp only[gE,seval,-Int.reduceToNat,Za]
   refine iS ?_
   exact rfl
 ·rintro x t H e hx
  rcases o5 with _|ra
  ·dsimp only at hx hh
   subst hx
   cases hh
   try simp only[gE,seval,-Int.reduceToNat]
  ·dsimp only at hx hh
   obtain⟨rfl,hE⟩:=hx
   cases hh
   try simp only[aO,aG,aW,bX,bW]
   exact hE
theorem Bi:bE Tryz.prog 153 rL:=bE.of (mode := .clean) tok LC mixed Tryz.func153 (by kernel_rfl) ⟨by kernel_rfl,by kernel_rfl⟩ (fun _=>Nat.le_of_ble_eq_true (by kernel_rfl)) (fun x r h=>O4 x.1 x.2 r h)
noncomputable def pH:=dI (cH (eZ (eI .i64)) (dn (eZ (eI .i64)))) (fun x:(List Int)×(List Int)=>kB x.1 x.2) (fun r:(List Int) =>.clean (.sl false false r.length (ab (eI .i64) r)))
theorem qw (p0:(List Int)) (p1:(List Int)):pH none [.sl false false p0.length (ab (eI .i64) p0),.sl false false p1.length (ab (eI .i64) p1)]=(kB p0 p1).map fun r:(List Int)=>(.clean (.sl false false r.length (ab (eI .i64) r)),none):=aC _ _ _ (p0,p1)
noncomputable def pU:Env:=(Am.ext (Am.ext aU 169 false j7) 175 false km)
theorem I4:bK Tryz.prog pU:=((bK.none.add mW false).add oe false)
theorem eF:type_of% (ai @w<|ai @fO<|ai @ia<|@pU.eq_1):=⟨@w,@fO,@ia,@pU.eq_1⟩
theorem Ms (p0:(List Int)) (p1:(List Int)) (r:(List Int)) (hh:kB p0 p1=some r):aM .clean tab pU FU Tryz.f168 none [.sl false false p0.length (ab (eI .i64) p0),.sl false false p1.length (ab (eI .i64) p1)]=some (.clean (.sl false false r.length (ab (eI .i64) r)),none):=by
 refine aq rfl Tryz.ntmps168 Tryz.results168 ?_
 unfold kB at hh
 try simp only[eF,seval,-Int.reduceToNat]
 obtain⟨o9,ho9,hh⟩:=ae hh
 refine ax (fun s t H e=>match s with|(s6a,s7a,l5a)=>∃v5a:Nat,t 0=.sl false false p0.length (ab (eI .i64) p0)∧t 1=.sl false false p1.length (ab (eI .i64) p1)∧t 5=.buf 5 v5a 1 0 (l5a).length∧t 6=.int .i64 s6a∧t 7=.int .i64 s7a∧H 5=some ⟨v5a,3,ab (eI .i64) l5a,false,true,false⟩) (fun o x t H e=>match o with|l5ax=>x=.exit 0∧∃v5ax:Nat,t 5=.buf 5 v5ax 1 0 (l5ax).length∧H 5=some ⟨v5ax,3,ab (eI .i64) l5ax,false,true,false⟩) ho9 ?_ ?_ ?_
 ·refine⟨1,?_,?_,?_,?_,?_,?_⟩
  all_goals first|rfl|(simp only[eF,seval,-Int.reduceToNat]<;>rfl)
 ·rintro⟨s6a,s7a,l5a⟩ t H e ⟨v5a,Za⟩ c hh
  simp only[ox]at hh
  try simp only[eF,seval,-Int.reduceToNat,Za]
  refine sp aj hh (fun _ hh =>?_) (fun _ hh =>?_)
  ·obtain⟨x11,hx11,hh⟩:=ae hh
   have ax11:=bF (eI .i64) hx11
   simp only[b6]at ax11
   obtain⟨r12,hr12,hh⟩:=ae hh
   try simp only[eF,seval,-Int.reduceToNat,Za,ax11,hr12]
   refine cf (by kernel_rfl) ?_
   try simp only[eF,seval,-Int.reduceToNat,Za,ax11,hr12]
   refine sp aj hh (fun _ hh =>?_) (fun _ hh =>?_)
   ·obtain⟨x14,hx14,hh⟩:=ae hh
    obtain⟨q15a,q15b,q15c,q15d⟩:=fa (eI .i64) hx14
    simp only[b6]at q15b
    cases hh
    try simp only[eF,seval,-Int.reduceToNat,Za,ax11,hr12,q15a,q15b,q15c,q15d]
    refine gA ?_
    refine⟨e+1+1+1+1+1+1,?_,?_,?_,?_,?_,?_⟩
    all_goals first|rfl|(simp only[eF,seval,-Int.reduceToNat,Za,ax11,hr12,q15a,q15b,q15c,q15d]<;>rfl)
   ·obtain⟨x16,hx16,hh⟩:=ae hh
    obtain⟨q17a,q17b,q17c,q17d⟩:=fa (eI .i64) hx16
    simp only[b6]at q17b
    cases hh
    try simp only[eF,seval,-Int.reduceToNat,Za,ax11,hr12,q17a,q17b,q17c,q17d]
    refine gA ?_
    refine⟨e+1+1+1+1,?_,?_,?_,?_,?_,?_⟩
    all_goals first|rfl|(simp only[eF,seval,-Int.reduceToNat,Za,ax11,hr12,q17a,q17b,q17c,q17d]<;>rfl)
  ·cases hh
   try simp only[eF,seval,-Int.reduceToNat,Za]
   refine iS ?_
   refine⟨rfl,⟨v5a,?_,?_⟩⟩
   all_goals first|rfl|(simp only[eF,seval,-Int.reduceToNat,Za]<;>rfl)
 ·rintro x t H e hx
  obtain⟨l5ax,rfl⟩:∃z,z=o9:=⟨_,rfl⟩
  dsimp only at hx hh
  obtain⟨rfl,⟨v5ax,Zax⟩⟩:=hx
  obtain⟨r18,hr18,hh⟩:=ae hh
  cases hh
  try simp only[eF,seval,-Int.reduceToNat,Zax,hr18]
theorem y5:bE Tryz.prog 168 pH:=bE.of (mode := .clean) tok I4 mixed Tryz.func168 (by kernel_rfl) ⟨by kernel_rfl,by kernel_rfl⟩ (fun _=>Nat.le_of_ble_eq_true (by kernel_rfl)) (fun x r h=>Ms x.1 x.2 r h)
noncomputable def rM:=dI (cH (eZ (eI .i64)) (dn (eZ (eI .i64)))) (fun x:(List Int)×(List Int)=>nf x.1 x.2) (fun r:(List Int)×(List Int) =>.clean (.tup [.sl false false r.1.length (ab (eI .i64) r.1),.sl false false r.2.length (ab (eI .i64) r.2)]))
theorem sS (p0:(List Int)) (p1:(List Int)):rM none [.sl false false p0.length (ab (eI .i64) p0),.sl false false p1.length (ab (eI .i64) p1)]=(nf p0 p1).map fun r:(List Int)×(List Int)=>(.clean (.tup [.sl false false r.1.length (ab (eI .i64) r.1),.sl false false r.2.length (ab (eI .i64) r.2)]),none):=aC _ _ _ (p0,p1)
noncomputable def sx:Env:=(Am.keep 7 (Am.ext (Am.ext (Am.ext (Am.ext aU 153 false rL) 154 false pI) 168 false pH) 169 false j7))
theorem LG:bK Tryz.prog sx:=(bK.keep ((((bK.none.add Bi false).add y6 false).add y5 false).add mW false) 7)
theorem dh:type_of% (ai @w<|ai @sQ<|ai @mY<|ai @qw<|ai @fO<|@sx.eq_1):=⟨@w,@sQ,@mY,@qw,@fO,@sx.eq_1⟩
theorem O6 (p0:(List Int)) (p1:(List Int)) (r:(List Int)×(List Int)) (hh:nf p0 p1=some r):aM .clean tab sx FU Tryz.f151 none [.sl false false p0.length (ab (eI .i64) p0),.sl false false p1.length (ab (eI .i64) p1)]=some (.clean (.tup [.sl false false r.1.length (ab (eI .i64) r.1),.sl false false r.2.length (ab (eI .i64) r.2)]),none):=by
 refine aq rfl Tryz.ntmps151 Tryz.results151 ?_
 unfold nf at hh
 obtain⟨x1,hx1,hh⟩:=ae hh
 obtain⟨q2a,q2b,q2c,q2d,q2e⟩:=mk_one (eI .i64) hx1
 simp only[b6]at q2d
 try simp only[dh,seval,-Int.reduceToNat,q2a,q2b,q2c,q2d,q2e]
 obtain⟨o29,ho29,hh⟩:=ae hh
 refine ax (fun s t H e=>match s with|(s7a,s8a,l6a)=>∃v6a:Nat,t 0=.sl false false p0.length (ab (eI .i64) p0)∧t 1=.sl false false p1.length (ab (eI .i64) p1)∧t 6=.buf 6 v6a 1 0 (l6a).length∧t 7=.sl false false s7a.length (ab (eI .i64) s7a)∧t 8=.int .i64 s8a∧H 6=some ⟨v6a,3,ab (eI .i64) l6a,false,true,false⟩) (fun o x t H e=>match o with|(s7ax,l6ax)=>x=.exit 0∧∃v6ax:Nat,t 6=.buf 6 v6ax 1 0 (l6ax).length∧t 7=.sl false false s7ax.length (ab (eI .i64) s7ax)∧H 6=some ⟨v6ax,3,ab (eI .i64) l6ax,false,true,false⟩) ho29 ?_ ?_ ?_
 ·refine⟨1,?_,?_,?_,?_,?_,?_⟩
  all_goals first|rfl|(simp only[dh,seval,-Int.reduceToNat,q2a,q2b,q2c,q2d,q2e]<;>rfl)
 ·rintro⟨s7a,s8a,l6a⟩ t H e ⟨v6a,Za⟩ c hh
  simp only[qG]at hh
  try simp only[dh,seval,-Int.reduceToNat,q2a,q2b,q2c,q2d,q2e,Za]
  refine sp aj hh (fun _ hh =>?_) (fun _ hh =>?_)
  ·obtain⟨x31,hx31,hh⟩:=ae hh
   have ax31:=bF (eI .i64) hx31
   simp only[b6]at ax31
   obtain⟨x32,hx32,hh⟩:=ae hh
   obtain⟨q33a,q33b,q33c,q33d⟩:=WS (eI .i64) hx32
   simp only[aZ,b6,List.length_cons,Nat.zero_add,Nat.reduceAdd]at q33a q33b
   obtain⟨r34,hr34,hh⟩:=ae hh
   try simp only[dh,seval,-Int.reduceToNat,q2a,q2b,q2c,q2d,q2e,Za,ax31,q33a,q33b,q33c,q33d,hr34]
   obtain⟨o42,ho42,hh⟩:=ae hh
   refine ax (fun s t H e=>match s with|(s9c,s10c)=>∃v6c:Nat,t 0=.sl false false p0.length (ab (eI .i64) p0)∧t 1=.sl false false p1.length (ab (eI .i64) p1)∧t 6=.buf 6 v6c 1 0 (l6a).length∧t 7=.sl false false r34.length (ab (eI .i64) r34)∧t 8=.int .i64 s8a∧t 9=.int .i64 s9c∧t 10=.int .i64 s10c∧H 6=some ⟨v6c,3,ab (eI .i64) l6a,false,true,false⟩) (fun o x t H e=>match o with|s9cx=>x=.exit 2∧∃v6cx:Nat,t 0=.sl false false p0.length (ab (eI .i64) p0)∧t 1=.sl false false p1.length (ab (eI .i64) p1)∧t 6=.buf 6 v6cx 1 0 (l6a).length∧t 7=.sl false false r34.length (ab (eI .i64) r34)∧t 8=.int .i64 s8a∧t 9=.int .i64 s9cx∧H 6=some ⟨v6cx,3,ab (eI .i64) l6a,false,true,false⟩) ho42 ?_ ?_ ?_
   ·refine⟨v6a,?_,?_,?_,?_,?_,?_,?_,?_⟩
    all_goals first|rfl|(simp only[dh,seval,-Int.reduceToNat,q2a,q2b,q2c,q2d,q2e,Za,ax31,q33a,q33b,q33c,q33d,hr34]<;>rfl)
   ·rintro⟨s9c,s10c⟩ t H e ⟨v6c,Zc⟩ c hh
    simp only[ng]at hh
    try simp only[dh,seval,-Int.reduceToNat,q2a,q2b,q2c,q2d,q2e,ax31,q33a,q33b,q33c,q33d,hr34,Zc]
    refine sp aj hh (fun _ hh =>?_) (fun _ hh =>?_)
    ·obtain⟨x44,hx44,hh⟩:=ae hh
     have q45:=sj hx44
     have i46:=mY p1 ([x44])
     simp only[aZ,b6,List.length_cons,List.length_nil,Nat.zero_add,Nat.reduceAdd,List.length_set]at i46
     obtain⟨r47,hr47,hh⟩:=ae hh
     obtain⟨r48,hr48,hh⟩:=ae hh
     try simp only[dh,seval,-Int.reduceToNat,q2a,q2b,q2c,q2d,q2e,ax31,q33a,q33b,q33c,q33d,hr34,Zc,q45,i46,hr47,hr48]
     refine sp aj hh (fun _ hh =>?_) (fun _ hh =>?_)
     ·cases hh
      try simp only[dh,seval,-Int.reduceToNat,q2a,q2b,q2c,q2d,q2e,ax31,q33a,q33b,q33c,q33d,hr34,Zc,q45,i46,hr47,hr48]
      refine gA ?_
      refine⟨v6c,?_,?_,?_,?_,?_,?_,?_,?_⟩
      all_goals first|rfl|(simp only[dh,seval,-Int.reduceToNat,q2a,q2b,q2c,q2d,q2e,ax31,q33a,q33b,q33c,q33d,hr34,Zc,q45,i46,hr47,hr48]<;>rfl)
     ·cases hh
      try simp only[dh,seval,-Int.reduceToNat,q2a,q2b,q2c,q2d,q2e,ax31,q33a,q33b,q33c,q33d,hr34,Zc,q45,i46,hr47,hr48]
      refine gA ?_
      refine⟨v6c,?_,?_,?_,?_,?_,?_,?_,?_⟩
      all_goals first|rfl|(simp only[dh,seval,-Int.reduceToNat,q2a,q2b,q2c,q2d,q2e,ax31,q33a,q33b,q33c,q33d,hr34,Zc,q45,i46,hr47,hr48]<;>rfl)
    ·cases hh
     try simp only[dh,seval,-Int.reduceToNat,q2a,q2b,q2c,q2d,q2e,ax31,q33a,q33b,q33c,q33d,hr34,Zc]
     refine iS ?_
     refine⟨rfl,⟨v6c,?_,?_,?_,?_,?_,?_,?_⟩⟩
     all_goals first|rfl|(simp only[dh,seval,-Int.reduceToNat,q2a,q2b,q2c,q2d,q2e,ax31,q33a,q33b,q33c,q33d,hr34,Zc]<;>rfl)
   ·rintro x t H e hx
    obtain⟨s9cx,rfl⟩:∃z,z=o42:=⟨_,rfl⟩
    dsimp only at hx hh
    obtain⟨rfl,⟨v6cx,Zcx⟩⟩:=hx
    obtain⟨x50,hx50,hh⟩:=ae hh
    have ax50:=bF (eI .i64) hx50
    simp only[b6]at ax50
    have p51:=qt (eI .i64) (x':=s9cx) (fo:=0) (cs:=[.int .i64 s9cx]) hx50 rfl (Nat.le_of_ble_eq_true rfl)
    simp only[b6,Nat.add_zero]at p51
    have up51:=p51
    simp only[putCells,List.length_cons,List.length_nil,Nat.zero_add,Nat.reduceAdd]at up51
    have i52:=fO ([s9cx])
    simp only[aZ,b6,List.length_cons,List.length_nil,Nat.zero_add,Nat.reduceAdd,List.length_set]at i52
    obtain⟨r53,hr53,hh⟩:=ae hh
    obtain⟨r54,hr54,hh⟩:=ae hh
    obtain⟨r55,hr55,hh⟩:=ae hh
    cases hh
    try simp only[dh,seval,-Int.reduceToNat,q2a,q2b,q2c,q2d,q2e,ax31,q33a,q33b,q33c,q33d,hr34,Zcx,ax50,p51,up51,i52,hr53,hr54,hr55]
    refine gA ?_
    refine⟨v6cx,?_,?_,?_,?_,?_,?_⟩
    all_goals first|rfl|(simp only[dh,seval,-Int.reduceToNat,q2a,q2b,q2c,q2d,q2e,ax31,q33a,q33b,q33c,q33d,hr34,Zcx,ax50,p51,up51,i52,hr53,hr54,hr55]<;>rfl)
  ·cases hh
   try simp only[dh,seval,-Int.reduceToNat,q2a,q2b,q2c,q2d,q2e,Za]
   refine iS ?_
   refine⟨rfl,⟨v6a,?_,?_,?_⟩⟩
   all_goals first|rfl|(simp only[dh,seval,-Int.reduceToNat,q2a,q2b,q2c,q2d,q2e,Za]<;>rfl)
 ·rintro x t H e hx
  rcases o29 with⟨s7ax,l6ax⟩
  dsimp only at hx hh
  obtain⟨rfl,⟨v6ax,Zax⟩⟩:=hx
  obtain⟨r56,hr56,hh⟩:=ae hh
  cases hh
  try simp only[dh,seval,-Int.reduceToNat,q2a,q2b,q2c,q2d,q2e,Zax,hr56]
theorem Bj:bE Tryz.prog 151 rM:=bE.of (mode := .clean) tok LG mixed Tryz.func151 (by kernel_rfl) ⟨by kernel_rfl,by kernel_rfl⟩ (fun _=>Nat.le_of_ble_eq_true (by kernel_rfl)) (fun x r h=>O6 x.1 x.2 r h)
noncomputable def vt:=dI (cH (cI fM) (dn (cI fM))) (fun x:aw×aw=>ov x.1 x.2) (fun r:aw×Int =>.clean (.tup [.agg [.int .i64 r.1.ah,.sl false false r.1.aa.length (ab (eI .i64) r.1.aa)],.int .i64 r.2]))
theorem v8 (p0_0:Int) (p0_1:(List Int)) (p1_0:Int) (p1_1:(List Int)):vt none [.agg [.int .i64 p0_0,.sl false false p0_1.length (ab (eI .i64) p0_1)],.agg [.int .i64 p1_0,.sl false false p1_1.length (ab (eI .i64) p1_1)]]=(ov (aw.mk p0_0 p0_1) (aw.mk p1_0 p1_1)).map fun r:aw×Int=>(.clean (.tup [.agg [.int .i64 r.1.ah,.sl false false r.1.aa.length (ab (eI .i64) r.1.aa)],.int .i64 r.2]),none):=aC _ _ _ ((aw.mk p0_0 p0_1),(aw.mk p1_0 p1_1))
noncomputable def vO:Env:=(Am.ext (Am.ext (Am.ext aU 111 false fU) 133 false j6) 151 false rM)
theorem OJ:bK Tryz.prog vO:=(((bK.none.add ir false).add mV false).add Bj false)
theorem eE:type_of% (ai @w<|ai @dG<|ai @gB<|ai @sS<|@vO.eq_1):=⟨@w,@dG,@gB,@sS,@vO.eq_1⟩
theorem SU (p0:aw) (p1:aw) (r:aw×Int) (hh:ov p0 p1=some r):aM .clean tab vO FU Tryz.f112 none [.agg [.int .i64 p0.ah,.sl false false p0.aa.length (ab (eI .i64) p0.aa)],.agg [.int .i64 p1.ah,.sl false false p1.aa.length (ab (eI .i64) p1.aa)]]=some (.clean (.tup [.agg [.int .i64 r.1.ah,.sl false false r.1.aa.length (ab (eI .i64) r.1.aa)],.int .i64 r.2]),none):=by
 refine aq rfl Tryz.ntmps112 Tryz.results112 ?_
 unfold ov at hh
 obtain⟨r1,hr1,hh⟩:=ae hh
 try simp only[eE,seval,-Int.reduceToNat,hr1]
 obtain⟨o2,ho2,hh⟩:=ae hh
 refine bA 0 (fun s t H e=>match s with|s17j1=>∃v2j1:Nat,∃v3j1:Nat,∃v4j1:Nat,t 2=.ptr 2 v2j1 0∧t 3=.ptr 3 v3j1 0∧t 4=.ptr 4 v4j1 0∧t 17=.bool s17j1∧H 2=some ⟨v2j1,49,[.int .i64 p0.ah,.sl false false p0.aa.length (ab (eI .i64) p0.aa)],false,false,false⟩∧H 3=some ⟨v3j1,49,[.int .i64 p1.ah,.sl false false p1.aa.length (ab (eI .i64) p1.aa)],false,false,false⟩∧H 4=some ⟨v4j1,49,[.int .i64 0,.sl true true 0 []],false,false,false⟩) (fun s=>s=o2) ?_ ?_
 ·rintro s17j1 t H e ⟨v2j1,v3j1,v4j1,Zj1⟩ rfl
  try dsimp only at hh
  try simp only[eE,seval,-Int.reduceToNat,hr1,Zj1]
  refine sp aj hh (fun _ hh =>?_) (fun _ hh =>?_)
  ·cases hh
   try simp only[eE,seval,-Int.reduceToNat,hr1,Zj1]
  ·try simp only[eE,seval,-Int.reduceToNat,hr1,Zj1]
   obtain⟨o6,ho6,hh⟩:=ae hh
   refine ax (fun s t H e=>match s with|(s6b,s7b)=>∃v4b:Nat,t 4=.ptr 4 v4b 0∧t 6=.sl false false s6b.length (ab (eI .i64) s6b)∧t 7=.sl false false s7b.length (ab (eI .i64) s7b)∧H 4=some ⟨v4b,49,[.int .i64 0,.sl true true 0 []],false,false,false⟩) (fun o x t H e=>match o with|s6bx=>x=.exit 0∧∃v4bx:Nat,t 4=.ptr 4 v4bx 0∧t 6=.sl false false s6bx.length (ab (eI .i64) s6bx)∧H 4=some ⟨v4bx,49,[.int .i64 0,.sl true true 0 []],false,false,false⟩) ho6 ?_ ?_ ?_
   ·refine⟨v4j1,?_,?_,?_,?_⟩
    all_goals first|rfl|(simp only[eE,seval,-Int.reduceToNat,hr1,Zj1]<;>rfl)
   ·rintro⟨s6b,s7b⟩ t H e ⟨v4b,Zb⟩ c hh
    simp only[pj]at hh
    try simp only[eE,seval,-Int.reduceToNat,hr1,Zb]
    refine sp aj hh (fun _ hh =>?_) (fun _ hh =>?_)
    ·obtain⟨r8,hr8,hh⟩:=ae hh
     cases hh
     try simp only[eE,seval,-Int.reduceToNat,hr1,Zb,hr8]
     refine gA ?_
     refine⟨v4b,?_,?_,?_,?_⟩
     all_goals first|rfl|(simp only[eE,seval,-Int.reduceToNat,hr1,Zb,hr8]<;>rfl)
    ·cases hh
     try simp only[eE,seval,-Int.reduceToNat,hr1,Zb]
     refine iS ?_
     refine⟨rfl,⟨v4b,?_,?_,?_⟩⟩
     all_goals first|rfl|(simp only[eE,seval,-Int.reduceToNat,hr1,Zb]<;>rfl)
   ·rintro x t H e hx
    obtain⟨s6bx,rfl⟩:∃z,z=o6:=⟨_,rfl⟩
    dsimp only at hx hh
    obtain⟨rfl,⟨v4bx,Zbx⟩⟩:=hx
    obtain⟨r9,hr9,hh⟩:=ae hh
    cases hh
    try simp only[eE,seval,-Int.reduceToNat,hr1,Zbx,hr9]
 ·clear hh
  have hh:=ho2
  try simp only[eE,seval,-Int.reduceToNat,hr1]
  refine sp aB hh (fun _ hh =>?_) (fun _ hh =>?_)
  ·cases hh
   try simp only[eE,seval,-Int.reduceToNat,hr1]
   rw[ak]
   refine⟨_,rfl,?_⟩
   refine⟨0,0,0,?_,?_,?_,?_,?_,?_,?_⟩
   all_goals first|rfl|(simp only[eE,seval,-Int.reduceToNat,hr1]<;>rfl)
  ·obtain⟨r11,hr11,hh⟩:=ae hh
   cases hh
   try simp only[eE,seval,-Int.reduceToNat,hr1,hr11]
   rw[ak]
   refine⟨_,rfl,?_⟩
   refine⟨0,0,0,?_,?_,?_,?_,?_,?_,?_⟩
   all_goals first|rfl|(simp only[eE,seval,-Int.reduceToNat,hr1,hr11]<;>rfl)
theorem Eo:bE Tryz.prog 112 vt:=bE.of (mode := .clean) tok OJ mixed Tryz.func112 (by kernel_rfl) ⟨by kernel_rfl,by kernel_rfl⟩ (fun _=>Nat.le_of_ble_eq_true (by kernel_rfl)) (fun x r h=>SU x.1 x.2 r h)
noncomputable def xt:=dI (cH (eZ (eI .i64)) (dn (eZ (eI .i64)))) (fun x:(List Int)×(List Int)=>vk x.1 x.2) (fun r:(List Int) =>.clean (.sl false false r.length (ab (eI .i64) r)))
theorem xO (p0:(List Int)) (p1:(List Int)):xt none [.sl false false p0.length (ab (eI .i64) p0),.sl false false p1.length (ab (eI .i64) p1)]=(vk p0 p1).map fun r:(List Int)=>(.clean (.sl false false r.length (ab (eI .i64) r)),none):=aC _ _ _ (p0,p1)
noncomputable def sy:Env:=(Am.ext (Am.ext aU 169 false j7) 175 false km)
theorem LH:bK Tryz.prog sy:=((bK.none.add mW false).add oe false)
theorem dy:type_of% (ai @w<|ai @fO<|ai @ia<|@sy.eq_1):=⟨@w,@fO,@ia,@sy.eq_1⟩
theorem O7 (p0:(List Int)) (p1:(List Int)) (r:(List Int)) (hh:vk p0 p1=some r):aM .clean tab sy FU Tryz.f167 none [.sl false false p0.length (ab (eI .i64) p0),.sl false false p1.length (ab (eI .i64) p1)]=some (.clean (.sl false false r.length (ab (eI .i64) r)),none):=by
 refine aq rfl Tryz.ntmps167 Tryz.results167 ?_
 unfold vk at hh
 try simp only[dy,seval,-Int.reduceToNat]
 obtain⟨o13,ho13,hh⟩:=ae hh
 refine ax (fun s t H e=>match s with|(s6a,s7a,l5a)=>∃v5a:Nat,t 0=.sl false false p0.length (ab (eI .i64) p0)∧t 1=.sl false false p1.length (ab (eI .i64) p1)∧t 5=.buf 5 v5a 1 0 (l5a).length∧t 6=.int .i64 s6a∧t 7=.int .i64 s7a∧H 5=some ⟨v5a,3,ab (eI .i64) l5a,false,true,false⟩) (fun o x t H e=>match o with|l5ax=>x=.exit 0∧∃v5ax:Nat,t 5=.buf 5 v5ax 1 0 (l5ax).length∧H 5=some ⟨v5ax,3,ab (eI .i64) l5ax,false,true,false⟩) ho13 ?_ ?_ ?_
 ·refine⟨1,?_,?_,?_,?_,?_,?_⟩
  all_goals first|rfl|(simp only[dy,seval,-Int.reduceToNat]<;>rfl)
 ·rintro⟨s6a,s7a,l5a⟩ t H e ⟨v5a,Za⟩ c hh
  simp only[BB]at hh
  try simp only[dy,seval,-Int.reduceToNat,Za]
  obtain⟨o14,ho14,hh⟩:=ae hh
  refine bA 0 (fun s t H e=>match s with|s22j3=>∃v5j3:Nat,t 0=.sl false false p0.length (ab (eI .i64) p0)∧t 1=.sl false false p1.length (ab (eI .i64) p1)∧t 5=.buf 5 v5j3 1 0 (l5a).length∧t 6=.int .i64 s6a∧t 7=.int .i64 s7a∧t 22=.bool s22j3∧H 5=some ⟨v5j3,3,ab (eI .i64) l5a,false,true,false⟩) (fun s=>s=o14) ?_ ?_
  ·rintro s22j3 t H e ⟨v5j3,Zj3⟩ rfl
   try dsimp only at hh
   try simp only[dy,seval,-Int.reduceToNat,Zj3]
   refine sp aj hh (fun _ hh =>?_) (fun _ hh =>?_)
   ·obtain⟨r16,hr16,hh⟩:=ae hh
    obtain⟨r17,hr17,hh⟩:=ae hh
    obtain⟨x18,hx18,hh⟩:=ae hh
    have q19:=qo hx18
    obtain⟨x20,hx20,hh⟩:=ae hh
    obtain⟨q21a,q21b,q21c,q21d⟩:=fa (eI .i64) hx20
    simp only[b6]at q21b
    obtain⟨x22,hx22,hh⟩:=ae hh
    have q23:=sj hx22
    cases hh
    try simp only[dy,seval,-Int.reduceToNat,Zj3,hr16,hr17,q19,q21a,q21b,q21c,q21d,q23]
    refine gA ?_
    refine⟨e+1,?_,?_,?_,?_,?_,?_⟩
    all_goals first|rfl|(simp only[dy,seval,-Int.reduceToNat,Zj3,hr16,hr17,q19,q21a,q21b,q21c,q21d,q23]<;>rfl)
   ·cases hh
    try simp only[dy,seval,-Int.reduceToNat,Zj3]
    refine iS ?_
    refine⟨rfl,⟨v5j3,?_,?_⟩⟩
    all_goals first|rfl|(simp only[dy,seval,-Int.reduceToNat,Zj3]<;>rfl)
  ·clear hh
   have hh:=ho14
   try simp only[dy,seval,-Int.reduceToNat,Za]
   refine sp aB hh (fun _ hh =>?_) (fun _ hh =>?_)
   ·cases hh
    try simp only[dy,seval,-Int.reduceToNat,Za]
    rw[ak]
    refine⟨_,rfl,?_⟩
    refine⟨v5a,?_,?_,?_,?_,?_,?_,?_⟩
    all_goals first|rfl|(simp only[dy,seval,-Int.reduceToNat,Za]<;>rfl)
   ·try simp only[dy,seval,-Int.reduceToNat,Za]
    refine sp aB hh (fun _ hh =>?_) (fun _ hh =>?_)
    ·cases hh
     try simp only[dy,seval,-Int.reduceToNat,Za]
     rw[ak]
     refine⟨_,rfl,?_⟩
     refine⟨v5a,?_,?_,?_,?_,?_,?_,?_⟩
     all_goals first|rfl|(simp only[dy,seval,-Int.reduceToNat,Za]<;>rfl)
    ·cases hh
     try simp only[dy,seval,-Int.reduceToNat,Za]
     rw[ak]
     refine⟨_,rfl,?_⟩
     refine⟨v5a,?_,?_,?_,?_,?_,?_,?_⟩
     all_goals first|rfl|(simp only[dy,seval,-Int.reduceToNat,Za]<;>rfl)
 ·rintro x t H e hx
  obtain⟨l5ax,rfl⟩:∃z,z=o13:=⟨_,rfl⟩
  dsimp only at hx hh
  obtain⟨rfl,⟨v5ax,Zax⟩⟩:=hx
  obtain⟨r26,hr26,hh⟩:=ae hh
  cases hh
  try simp only[dy,seval,-Int.reduceToNat,Zax,hr26]
theorem M9:bE Tryz.prog 167 xt:=bE.of (mode := .clean) tok LH mixed Tryz.func167 (by kernel_rfl) ⟨by kernel_rfl,by kernel_rfl⟩ (fun _=>Nat.le_of_ble_eq_true (by kernel_rfl)) (fun x r h=>O7 x.1 x.2 r h)
noncomputable def zJ:=dI (cH (cI fM) (dn (cI fM))) (fun x:aw×aw=>mK x.1 x.2) (fun r:aw×aw×Int =>.clean (.tup [.agg [.int .i64 r.1.ah,.sl false false r.1.aa.length (ab (eI .i64) r.1.aa)],.agg [.int .i64 r.2.1.ah,.sl false false r.2.1.aa.length (ab (eI .i64) r.2.1.aa)],.int .i64 r.2.2]))
theorem HW (p0_0:Int) (p0_1:(List Int)) (p1_0:Int) (p1_1:(List Int)):zJ none [.agg [.int .i64 p0_0,.sl false false p0_1.length (ab (eI .i64) p0_1)],.agg [.int .i64 p1_0,.sl false false p1_1.length (ab (eI .i64) p1_1)]]=(mK (aw.mk p0_0 p0_1) (aw.mk p1_0 p1_1)).map fun r:aw×aw×Int=>(.clean (.tup [.agg [.int .i64 r.1.ah,.sl false false r.1.aa.length (ab (eI .i64) r.1.aa)],.agg [.int .i64 r.2.1.ah,.sl false false r.2.1.aa.length (ab (eI .i64) r.2.1.aa)],.int .i64 r.2.2]),none):=aC _ _ _ ((aw.mk p0_0 p0_1),(aw.mk p1_0 p1_1))
noncomputable def vN:Env:=(Am.ext (Am.ext (Am.ext (Am.ext (Am.ext aU 111 false fU) 133 false j6) 151 false rM) 167 false xt) 168 false pH)
theorem OI:bK Tryz.prog vN:=(((((bK.none.add ir false).add mV false).add Bj false).add M9 false).add y5 false)
theorem da:type_of% (ai @w<|ai @dG<|ai @gB<|ai @sS<|ai @xO<|ai @qw<|@vN.eq_1):=⟨@w,@dG,@gB,@sS,@xO,@qw,@vN.eq_1⟩
theorem SS (p0:aw) (p1:aw) (r:aw×aw×Int) (hh:mK p0 p1=some r):aM .clean tab vN FU Tryz.f132 none [.agg [.int .i64 p0.ah,.sl false false p0.aa.length (ab (eI .i64) p0.aa)],.agg [.int .i64 p1.ah,.sl false false p1.aa.length (ab (eI .i64) p1.aa)]]=some (.clean (.tup [.agg [.int .i64 r.1.ah,.sl false false r.1.aa.length (ab (eI .i64) r.1.aa)],.agg [.int .i64 r.2.1.ah,.sl false false r.2.1.aa.length (ab (eI .i64) r.2.1.aa)],.int .i64 r.2.2]),none):=by
 refine aq rfl Tryz.ntmps132 Tryz.results132 ?_
 unfold mK at hh
 obtain⟨r1,hr1,hh⟩:=ae hh
 try simp only[da,seval,-Int.reduceToNat,hr1]
 obtain⟨o2,ho2,hh⟩:=ae hh
 refine bA 0 (fun s t H e=>match s with|s16j1=>∃v2j1:Nat,∃v3j1:Nat,∃v4j1:Nat,∃v5j1:Nat,t 2=.ptr 2 v2j1 0∧t 3=.ptr 3 v3j1 0∧t 4=.ptr 4 v4j1 0∧t 5=.ptr 5 v5j1 0∧t 16=.bool s16j1∧H 2=some ⟨v2j1,49,[.int .i64 p0.ah,.sl false false p0.aa.length (ab (eI .i64) p0.aa)],false,false,false⟩∧H 3=some ⟨v3j1,49,[.int .i64 p1.ah,.sl false false p1.aa.length (ab (eI .i64) p1.aa)],false,false,false⟩∧H 4=some ⟨v4j1,49,[.int .i64 0,.sl true true 0 []],false,false,false⟩∧H 5=some ⟨v5j1,49,[.int .i64 0,.sl true true 0 []],false,false,false⟩) (fun s=>s=o2) ?_ ?_
 ·rintro s16j1 t H e ⟨v2j1,v3j1,v4j1,v5j1,Zj1⟩ rfl
  try dsimp only at hh
  try simp only[da,seval,-Int.reduceToNat,hr1,Zj1]
  refine sp aj hh (fun _ hh =>?_) (fun _ hh =>?_)
  ·cases hh
   try simp only[da,seval,-Int.reduceToNat,hr1,Zj1]
  ·try simp only[da,seval,-Int.reduceToNat,hr1,Zj1]
   refine sp aj hh (fun _ hh =>?_) (fun _ hh =>?_)
   ·cases hh
    try simp only[da,seval,-Int.reduceToNat,hr1,Zj1]
   ·obtain⟨r5,hr5,hh⟩:=ae hh
    try simp only[da,seval,-Int.reduceToNat,hr1,Zj1,hr5]
    obtain⟨o6,ho6,hh⟩:=ae hh
    refine bA 0 (fun s t H e=>match s with|s42j2=>∃v2j2:Nat,∃v3j2:Nat,∃v4j2:Nat,∃v5j2:Nat,t 2=.ptr 2 v2j2 0∧t 3=.ptr 3 v3j2 0∧t 4=.ptr 4 v4j2 0∧t 5=.ptr 5 v5j2 0∧t 7=.sl false false r5.1.length (ab (eI .i64) r5.1)∧t 8=.sl false false r5.2.length (ab (eI .i64) r5.2)∧t 42=.bool s42j2∧H 2=some ⟨v2j2,49,[.int .i64 p0.ah,.sl false false p0.aa.length (ab (eI .i64) p0.aa)],false,false,false⟩∧H 3=some ⟨v3j2,49,[.int .i64 p1.ah,.sl false false p1.aa.length (ab (eI .i64) p1.aa)],false,false,false⟩∧H 4=some ⟨v4j2,49,[.int .i64 0,.sl true true 0 []],false,false,false⟩∧H 5=some ⟨v5j2,49,[.int .i64 0,.sl true true 0 []],false,false,false⟩) (fun s=>s=o6) ?_ ?_
    ·rintro s42j2 t H e ⟨v2j2,v3j2,v4j2,v5j2,Zj2⟩ rfl
     try dsimp only at hh
     try simp only[da,seval,-Int.reduceToNat,hr1,hr5,Zj2]
     refine sp aj hh (fun _ hh =>?_) (fun _ hh =>?_)
     ·obtain⟨r8,hr8,hh⟩:=ae hh
      obtain⟨r9,hr9,hh⟩:=ae hh
      try simp only[da,seval,-Int.reduceToNat,hr1,hr5,Zj2,hr8,hr9]
      refine cf (by kernel_rfl) ?_
      cases hh
      try simp only[da,seval,-Int.reduceToNat,hr1,hr5,Zj2,hr8,hr9]
     ·have i10:=xO r5.1 ([1])
      simp only[aZ,b6,List.length_cons,List.length_nil,Nat.zero_add,Nat.reduceAdd,List.length_set]at i10
      obtain⟨r11,hr11,hh⟩:=ae hh
      obtain⟨r12,hr12,hh⟩:=ae hh
      obtain⟨r13,hr13,hh⟩:=ae hh
      obtain⟨r14,hr14,hh⟩:=ae hh
      try simp only[da,seval,-Int.reduceToNat,hr1,hr5,Zj2,i10,hr11,hr12,hr13,hr14]
      refine cf (by kernel_rfl) ?_
      cases hh
      try simp only[da,seval,-Int.reduceToNat,hr1,hr5,Zj2,i10,hr11,hr12,hr13,hr14]
    ·clear hh
     have hh:=ho6
     try simp only[da,seval,-Int.reduceToNat,hr1,Zj1,hr5]
     refine sp aB hh (fun _ hh =>?_) (fun _ hh =>?_)
     ·cases hh
      try simp only[da,seval,-Int.reduceToNat,hr1,Zj1,hr5]
      rw[ak]
      refine⟨_,rfl,?_⟩
      refine⟨v2j1,v3j1,v4j1,v5j1,?_,?_,?_,?_,?_,?_,?_,?_,?_,?_,?_⟩
      all_goals first|rfl|(simp only[da,seval,-Int.reduceToNat,hr1,Zj1,hr5]<;>rfl)
     ·cases hh
      try simp only[da,seval,-Int.reduceToNat,hr1,Zj1,hr5]
      rw[ak]
      refine⟨_,rfl,?_⟩
      refine⟨v2j1,v3j1,v4j1,v5j1,?_,?_,?_,?_,?_,?_,?_,?_,?_,?_,?_⟩
      all_goals first|rfl|(simp only[da,seval,-Int.reduceToNat,hr1,Zj1,hr5]<;>rfl)
 ·clear hh
  have hh:=ho2
  try simp only[da,seval,-Int.reduceToNat,hr1]
  refine sp aB hh (fun _ hh =>?_) (fun _ hh =>?_)
  ·cases hh
   try simp only[da,seval,-Int.reduceToNat,hr1]
   rw[ak]
   refine⟨_,rfl,?_⟩
   refine⟨0,0,0,0,?_,?_,?_,?_,?_,?_,?_,?_,?_⟩
   all_goals first|rfl|(simp only[da,seval,-Int.reduceToNat,hr1]<;>rfl)
  ·obtain⟨r17,hr17,hh⟩:=ae hh
   cases hh
   try simp only[da,seval,-Int.reduceToNat,hr1,hr17]
   rw[ak]
   refine⟨_,rfl,?_⟩
   refine⟨0,0,0,0,?_,?_,?_,?_,?_,?_,?_,?_,?_⟩
   all_goals first|rfl|(simp only[da,seval,-Int.reduceToNat,hr1,hr17]<;>rfl)
theorem Pr:bE Tryz.prog 132 zJ:=bE.of (mode := .clean) tok OI mixed Tryz.func132 (by kernel_rfl) ⟨by kernel_rfl,by kernel_rfl⟩ (fun _=>Nat.le_of_ble_eq_true (by kernel_rfl)) (fun x r h=>SS x.1 x.2 r h)
noncomputable def zN:=dI (cH (cI fM) (dn (cI fM))) (fun x:aw×aw=>sX x.1 x.2) (fun r:aQ×Int =>.clean (.tup [.agg [.int .i64 r.1.cn.ah,.sl false false r.1.cn.aa.length (ab (eI .i64) r.1.cn.aa),.int .i64 r.1.cl.ah,.sl false false r.1.cl.aa.length (ab (eI .i64) r.1.cl.aa)],.int .i64 r.2]))
theorem H0 (p0_0:Int) (p0_1:(List Int)) (p1_0:Int) (p1_1:(List Int)):zN none [.agg [.int .i64 p0_0,.sl false false p0_1.length (ab (eI .i64) p0_1)],.agg [.int .i64 p1_0,.sl false false p1_1.length (ab (eI .i64) p1_1)]]=(sX (aw.mk p0_0 p0_1) (aw.mk p1_0 p1_1)).map fun r:aQ×Int=>(.clean (.tup [.agg [.int .i64 r.1.cn.ah,.sl false false r.1.cn.aa.length (ab (eI .i64) r.1.cn.aa),.int .i64 r.1.cl.ah,.sl false false r.1.cl.aa.length (ab (eI .i64) r.1.cl.aa)],.int .i64 r.2]),none):=aC _ _ _ ((aw.mk p0_0 p0_1),(aw.mk p1_0 p1_1))
noncomputable def vS:Env:=(Am.ext (Am.ext (Am.ext (Am.ext aU 111 false fU) 112 false vt) 131 false zL) 132 false zJ)
theorem ON:bK Tryz.prog vS:=((((bK.none.add ir false).add Eo false).add Pt false).add Pr false)
theorem ec:type_of% (ai @w<|ai @dG<|ai @v8<|ai @HY<|ai @HW<|@vS.eq_1):=⟨@w,@dG,@v8,@HY,@HW,@vS.eq_1⟩
theorem SZ (p0:aw) (p1:aw) (r:aQ×Int) (hh:sX p0 p1=some r):aM .clean tab vS FU Tryz.f102 none [.agg [.int .i64 p0.ah,.sl false false p0.aa.length (ab (eI .i64) p0.aa)],.agg [.int .i64 p1.ah,.sl false false p1.aa.length (ab (eI .i64) p1.aa)]]=some (.clean (.tup [.agg [.int .i64 r.1.cn.ah,.sl false false r.1.cn.aa.length (ab (eI .i64) r.1.cn.aa),.int .i64 r.1.cl.ah,.sl false false r.1.cl.aa.length (ab (eI .i64) r.1.cl.aa)],.int .i64 r.2]),none):=by
 refine aq rfl Tryz.ntmps102 Tryz.results102 ?_
 unfold sX at hh
 obtain⟨r1,hr1,hh⟩:=ae hh
 try simp only[ec,seval,-Int.reduceToNat,hr1]
 obtain⟨o2,ho2,hh⟩:=ae hh
 refine bA 0 (fun s t H e=>match s with|s21j1=>∃v2j1:Nat,∃v3j1:Nat,∃v4j1:Nat,t 2=.ptr 2 v2j1 0∧t 3=.ptr 3 v3j1 0∧t 4=.ptr 4 v4j1 0∧t 21=.bool s21j1∧H 2=some ⟨v2j1,49,[.int .i64 p0.ah,.sl false false p0.aa.length (ab (eI .i64) p0.aa)],false,false,false⟩∧H 3=some ⟨v3j1,49,[.int .i64 p1.ah,.sl false false p1.aa.length (ab (eI .i64) p1.aa)],false,false,false⟩∧H 4=some ⟨v4j1,51,[.int .i64 0,.sl true true 0 [],.int .i64 0,.sl true true 0 []],false,false,false⟩) (fun s=>s=o2) ?_ ?_
 ·rintro s21j1 t H e ⟨v2j1,v3j1,v4j1,Zj1⟩ rfl
  try dsimp only at hh
  try simp only[ec,seval,-Int.reduceToNat,hr1,Zj1]
  refine sp aj hh (fun _ hh =>?_) (fun _ hh =>?_)
  ·cases hh
   try simp only[ec,seval,-Int.reduceToNat,hr1,Zj1]
  ·try simp only[ec,seval,-Int.reduceToNat,hr1,Zj1]
   refine sp aj hh (fun _ hh =>?_) (fun _ hh =>?_)
   ·cases hh
    try simp only[ec,seval,-Int.reduceToNat,hr1,Zj1]
   ·try simp only[ec,seval,-Int.reduceToNat,hr1,Zj1]
    obtain⟨o5,ho5,hh⟩:=ae hh
    refine ns 0 (fun s t H e=>match s with|(r2_0j2,r2_1j2,r3_0j2,r3_1j2)=>∃v2j2:Nat,∃v3j2:Nat,∃v4j2:Nat,t 2=.ptr 2 v2j2 0∧t 3=.ptr 3 v3j2 0∧t 4=.ptr 4 v4j2 0∧H 2=some ⟨v2j2,49,[.int .i64 r2_0j2,.sl false false r2_1j2.length (ab (eI .i64) r2_1j2)],false,false,false⟩∧H 3=some ⟨v3j2,49,[.int .i64 r3_0j2,.sl false false r3_1j2.length (ab (eI .i64) r3_1j2)],false,false,false⟩∧H 4=some ⟨v4j2,51,[.int .i64 0,.sl true true 0 [],.int .i64 0,.sl true true 0 []],false,false,false⟩) (fun s=>s=o5) ?_ ?_
    ·rintro⟨r2_0j2,r2_1j2,r3_0j2,r3_1j2⟩ t H e ⟨v2j2,v3j2,v4j2,Zj2⟩ rfl
     try dsimp only at hh
     obtain⟨r6,hr6,hh⟩:=ae hh
     obtain⟨r7,hr7,hh⟩:=ae hh
     obtain⟨r8,hr8,hh⟩:=ae hh
     cases hh
     try simp only[ec,seval,-Int.reduceToNat,hr1,Zj2,hr6,hr7,hr8]
    ·clear hh
     have hh:=ho5
     try simp only[ec,seval,-Int.reduceToNat,hr1,Zj1]
     refine sp aj hh (fun _ hh =>?_) (fun _ hh =>?_)
     ·obtain⟨r10,hr10,hh⟩:=ae hh
      obtain⟨r11,hr11,hh⟩:=ae hh
      cases hh
      try simp only[ec,seval,-Int.reduceToNat,hr1,Zj1,hr10,hr11]
      rw[ak]
      refine⟨_,rfl,?_⟩
      refine⟨v2j1,v3j1,v4j1,?_,?_,?_,?_,?_,?_⟩
      all_goals first|rfl|(simp only[ec,seval,-Int.reduceToNat,hr1,Zj1,hr10,hr11]<;>rfl)
     ·cases hh
      try simp only[ec,seval,-Int.reduceToNat,hr1,Zj1]
      rw[ak]
      refine⟨_,rfl,?_⟩
      refine⟨v2j1,v3j1,v4j1,?_,?_,?_,?_,?_,?_⟩
      all_goals first|rfl|(simp only[ec,seval,-Int.reduceToNat,hr1,Zj1]<;>rfl)
 ·clear hh
  have hh:=ho2
  try simp only[ec,seval,-Int.reduceToNat,hr1]
  refine sp aB hh (fun _ hh =>?_) (fun _ hh =>?_)
  ·cases hh
   try simp only[ec,seval,-Int.reduceToNat,hr1]
   rw[ak]
   refine⟨_,rfl,?_⟩
   refine⟨0,0,0,?_,?_,?_,?_,?_,?_,?_⟩
   all_goals first|rfl|(simp only[ec,seval,-Int.reduceToNat,hr1]<;>rfl)
  ·obtain⟨r13,hr13,hh⟩:=ae hh
   cases hh
   try simp only[ec,seval,-Int.reduceToNat,hr1,hr13]
   rw[ak]
   refine⟨_,rfl,?_⟩
   refine⟨0,0,0,?_,?_,?_,?_,?_,?_,?_⟩
   all_goals first|rfl|(simp only[ec,seval,-Int.reduceToNat,hr1,hr13]<;>rfl)
theorem Pv:bE Tryz.prog 102 zN:=bE.of (mode := .clean) tok ON mixed Tryz.func102 (by kernel_rfl) ⟨by kernel_rfl,by kernel_rfl⟩ (fun _=>Nat.le_of_ble_eq_true (by kernel_rfl)) (fun x r h=>SZ x.1 x.2 r h)
noncomputable def Cw:=dI (cH (aI .i64) (dn (aI .i64))) (fun x:Int×Int=>xQ x.1 x.2) (fun r:aQ×Int =>.clean (.tup [.agg [.int .i64 r.1.cn.ah,.sl false false r.1.cn.aa.length (ab (eI .i64) r.1.cn.aa),.int .i64 r.1.cl.ah,.sl false false r.1.cl.aa.length (ab (eI .i64) r.1.cl.aa)],.int .i64 r.2]))
theorem Np (p0:Int) (p1:Int):Cw none [.int .i64 p0,.int .i64 p1]=(xQ p0 p1).map fun r:aQ×Int=>(.clean (.tup [.agg [.int .i64 r.1.cn.ah,.sl false false r.1.cn.aa.length (ab (eI .i64) r.1.cn.aa),.int .i64 r.1.cl.ah,.sl false false r.1.cl.aa.length (ab (eI .i64) r.1.cl.aa)],.int .i64 r.2]),none):=aC _ _ _ (p0,p1)
noncomputable def yN:Env:=(Am.ext (Am.ext aU 102 false zN) 103 false yb)
theorem SJ:bK Tryz.prog yN:=((bK.none.add Pv false).add HK false)
theorem WI:type_of% (ai @w<|ai @H0<|ai @zg<|@yN.eq_1):=⟨@w,@H0,@zg,@yN.eq_1⟩
theorem Vf (p0:Int) (p1:Int) (r:aQ×Int) (hh:xQ p0 p1=some r):aM .clean tab yN FU Tryz.f59 none [.int .i64 p0,.int .i64 p1]=some (.clean (.tup [.agg [.int .i64 r.1.cn.ah,.sl false false r.1.cn.aa.length (ab (eI .i64) r.1.cn.aa),.int .i64 r.1.cl.ah,.sl false false r.1.cl.aa.length (ab (eI .i64) r.1.cl.aa)],.int .i64 r.2]),none):=by
 refine aq rfl Tryz.ntmps59 Tryz.results59 ?_
 unfold xQ at hh
 obtain⟨r1,hr1,hh⟩:=ae hh
 obtain⟨r2,hr2,hh⟩:=ae hh
 obtain⟨r3,hr3,hh⟩:=ae hh
 cases hh
 try simp only[WI,seval,-Int.reduceToNat,hr1,hr2,hr3]
theorem Tc:bE Tryz.prog 59 Cw:=bE.of (mode := .clean) tok SJ mixed Tryz.func59 (by kernel_rfl) ⟨by kernel_rfl,by kernel_rfl⟩ (fun _=>Nat.le_of_ble_eq_true (by kernel_rfl)) (fun x r h=>Vf x.1 x.2 r h)
noncomputable def vu:=dI (dn (aI .i64)) (fun x:Int=>oB x) (fun r:aQ =>.clean (.agg [.int .i64 r.cn.ah,.sl false false r.cn.aa.length (ab (eI .i64) r.cn.aa),.int .i64 r.cl.ah,.sl false false r.cl.aa.length (ab (eI .i64) r.cl.aa)]))
theorem wa (p0:Int):vu none [.int .i64 p0]=(oB p0).map fun r:aQ=>(.clean (.agg [.int .i64 r.cn.ah,.sl false false r.cn.aa.length (ab (eI .i64) r.cn.aa),.int .i64 r.cl.ah,.sl false false r.cl.aa.length (ab (eI .i64) r.cl.aa)]),none):=aC _ _ _ (p0)
noncomputable def vR:Env:=(Am.ext aU 59 false Cw)
theorem OM:bK Tryz.prog vR:=(bK.none.add Tc false)
theorem TC:type_of% (ai @w<|ai @Np<|@vR.eq_1):=⟨@w,@Np,@vR.eq_1⟩
theorem SY (p0:Int) (r:aQ) (hh:oB p0=some r):aM .clean tab vR FU Tryz.f32 none [.int .i64 p0]=some (.clean (.agg [.int .i64 r.cn.ah,.sl false false r.cn.aa.length (ab (eI .i64) r.cn.aa),.int .i64 r.cl.ah,.sl false false r.cl.aa.length (ab (eI .i64) r.cl.aa)]),none):=by
 refine aq rfl Tryz.ntmps32 Tryz.results32 ?_
 unfold oB at hh
 obtain⟨r1,hr1,hh⟩:=ae hh
 cases hh
 try simp only[TC,seval,-Int.reduceToNat,hr1]
theorem Ep:bE Tryz.prog 32 vu:=bE.of (mode := .clean) tok OM mixed Tryz.func32 (by kernel_rfl) ⟨by kernel_rfl,by kernel_rfl⟩ (fun _=>Nat.le_of_ble_eq_true (by kernel_rfl)) (fun x r h=>SY x r h)
noncomputable def qP:=dI (cH (aI .i64) (dn (aI .i64))) (fun x:Int×Int=>gZ x.1 x.2) (fun r:dt =>.clean (.agg [.int .i64 r.bq.cn.ah,.sl false false r.bq.cn.aa.length (ab (eI .i64) r.bq.cn.aa),.int .i64 r.bq.cl.ah,.sl false false r.bq.cl.aa.length (ab (eI .i64) r.bq.cl.aa),.int .i64 r.aT.cn.ah,.sl false false r.aT.cn.aa.length (ab (eI .i64) r.aT.cn.aa),.int .i64 r.aT.cl.ah,.sl false false r.aT.cl.aa.length (ab (eI .i64) r.aT.cl.aa)]))
theorem w7 (p0:Int) (p1:Int):qP none [.int .i64 p0,.int .i64 p1]=(gZ p0 p1).map fun r:dt=>(.clean (.agg [.int .i64 r.bq.cn.ah,.sl false false r.bq.cn.aa.length (ab (eI .i64) r.bq.cn.aa),.int .i64 r.bq.cl.ah,.sl false false r.bq.cl.aa.length (ab (eI .i64) r.bq.cl.aa),.int .i64 r.aT.cn.ah,.sl false false r.aT.cn.aa.length (ab (eI .i64) r.aT.cn.aa),.int .i64 r.aT.cl.ah,.sl false false r.aT.cl.aa.length (ab (eI .i64) r.aT.cl.aa)]),none):=aC _ _ _ (p0,p1)
noncomputable def mz:Env:=(Am.ext aU 32 false vu)
theorem DS:bK Tryz.prog mz:=(bK.none.add Ep false)
theorem Gi:type_of% (ai @w<|ai @wa<|@mz.eq_1):=⟨@w,@wa,@mz.eq_1⟩
theorem FP (p0:Int) (p1:Int) (r:dt) (hh:gZ p0 p1=some r):aM .clean tab mz FU Tryz.f35 none [.int .i64 p0,.int .i64 p1]=some (.clean (.agg [.int .i64 r.bq.cn.ah,.sl false false r.bq.cn.aa.length (ab (eI .i64) r.bq.cn.aa),.int .i64 r.bq.cl.ah,.sl false false r.bq.cl.aa.length (ab (eI .i64) r.bq.cl.aa),.int .i64 r.aT.cn.ah,.sl false false r.aT.cn.aa.length (ab (eI .i64) r.aT.cn.aa),.int .i64 r.aT.cl.ah,.sl false false r.aT.cl.aa.length (ab (eI .i64) r.aT.cl.aa)]),none):=by
 refine aq rfl Tryz.ntmps35 Tryz.results35 ?_
 unfold gZ at hh
 obtain⟨r1,hr1,hh⟩:=ae hh
 obtain⟨r2,hr2,hh⟩:=ae hh
 cases hh
 try simp only[Gi,seval,-Int.reduceToNat,hr1,hr2]
theorem En:bE Tryz.prog 35 qP:=bE.of (mode := .clean) tok DS mixed Tryz.func35 (by kernel_rfl) ⟨by kernel_rfl,by kernel_rfl⟩ (fun _=>Nat.le_of_ble_eq_true (by kernel_rfl)) (fun x r h=>FP x.1 x.2 r h)
noncomputable def ja:=dI (dn (cI fM)) (fun x:aw=>eD x) (fun r:Bool =>.clean (.bool r))
theorem fC (p0_0:Int) (p0_1:(List Int)):ja none [.agg [.int .i64 p0_0,.sl false false p0_1.length (ab (eI .i64) p0_1)]]=(eD (aw.mk p0_0 p0_1)).map fun r:Bool=>(.clean (.bool r),none):=aC _ _ _ ((aw.mk p0_0 p0_1))
theorem Mm (p0:aw) (r:Bool) (hh:eD p0=some r):aM .clean tab aU FU Tryz.f97 none [.agg [.int .i64 p0.ah,.sl false false p0.aa.length (ab (eI .i64) p0.aa)]]=some (.clean (.bool r),none):=by
 refine aq rfl Tryz.ntmps97 Tryz.results97 ?_
 unfold eD at hh
 try simp only[w,seval,-Int.reduceToNat]
 obtain⟨o5,ho5,hh⟩:=ae hh
 refine ax (fun s t H e=>match s with|s12a=>∃v1a:Nat,t 1=.ptr 1 v1a 0∧t 3=.int .i64 (p0.aa.length:Int)∧t 10=.sl false false p0.aa.length (ab (eI .i64) p0.aa)∧t 11=.int .i64 (p0.aa.length:Int)∧t 12=.int .i64 s12a∧H 1=some ⟨v1a,49,[.int .i64 p0.ah,.sl false false p0.aa.length (ab (eI .i64) p0.aa)],false,false,false⟩) (fun o x t H e=>match o with|(.inl _)=>x=.exit 0∧∃v1ax:Nat,t 1=.ptr 1 v1ax 0∧t 3=.int .i64 (p0.aa.length:Int)∧H 1=some ⟨v1ax,49,[.int .i64 p0.ah,.sl false false p0.aa.length (ab (eI .i64) p0.aa)],false,false,false⟩|(.inr r)=>x=.ret∧eW .clean tab none [.tmp 2] ⟨t,H,e⟩=some (.clean (.bool r),none)) ho5 ?_ ?_ ?_
 ·refine⟨0,?_,?_,?_,?_,?_,?_⟩
  all_goals first|rfl|(simp only[w,seval,-Int.reduceToNat]<;>rfl)
 ·rintro s12a t H e ⟨v1a,Za⟩ c hh
  simp only[nO]at hh
  try simp only[w,seval,-Int.reduceToNat,Za]
  refine sp aj hh (fun _ hh =>?_) (fun _ hh =>?_)
  ·obtain⟨x7,hx7,hh⟩:=ae hh
   have ax7:=bF (eI .i64) hx7
   simp only[b6]at ax7
   try simp only[w,seval,-Int.reduceToNat,Za,ax7]
   refine sp aB hh (fun _ hh =>?_) (fun _ hh =>?_)
   ·cases hh
    try simp only[w,seval,-Int.reduceToNat,Za,ax7]
    refine pc ⟨rfl,?_⟩
    try simp only[w,seval,-Int.reduceToNat,Za,ax7]
   ·try simp only[w,seval,-Int.reduceToNat,Za,ax7]
    refine sp aj hh (fun _ hh =>?_) (fun _ hh =>?_)
    ·cases hh
     try simp only[w,seval,-Int.reduceToNat,Za,ax7]
     refine pc ⟨rfl,?_⟩
     try simp only[w,seval,-Int.reduceToNat,Za,ax7]
    ·cases hh
     try simp only[w,seval,-Int.reduceToNat,Za,ax7]
     refine gA ?_
     refine⟨v1a,?_,?_,?_,?_,?_,?_⟩
     all_goals first|rfl|(simp only[w,seval,-Int.reduceToNat,Za,ax7]<;>rfl)
  ·cases hh
   try simp only[w,seval,-Int.reduceToNat,Za]
   refine iS ?_
   refine⟨rfl,⟨v1a,?_,?_,?_⟩⟩
   all_goals first|rfl|(simp only[w,seval,-Int.reduceToNat,Za]<;>rfl)
 ·rintro x t H e hx
  rcases o5 with _|ra
  ·dsimp only at hx hh
   obtain⟨rfl,⟨v1ax,Zax⟩⟩:=hx
   try simp only[w,seval,-Int.reduceToNat,Zax]
   refine sp aj hh (fun _ hh =>?_) (fun _ hh =>?_)
   ·cases hh
    try simp only[w,seval,-Int.reduceToNat,Zax]
   ·try simp only[w,seval,-Int.reduceToNat,Zax]
    refine sp aB hh (fun _ hh =>?_) (fun _ hh =>?_)
    ·obtain⟨x12,hx12,hh⟩:=ae hh
     have ax12:=bF (eI .i64) hx12
     simp only[b6]at ax12
     cases hh
     try simp only[w,seval,-Int.reduceToNat,Zax,ax12]
    ·try simp only[w,seval,-Int.reduceToNat,Zax]
     refine sp bd hh (fun _ hh =>?_) (fun _ hh =>?_)
     ·obtain⟨x14,hx14,hh⟩:=ae hh
      have ax14:=bF (eI .i64) hx14
      simp only[b6]at ax14
      cases hh
      try simp only[w,seval,-Int.reduceToNat,Zax,ax14]
     ·cases hh
      try simp only[w,seval,-Int.reduceToNat,Zax]
  ·dsimp only at hx hh
   obtain⟨rfl,hE⟩:=hx
   cases hh
   try simp only[aO,aG,aW,bX,bW]
   exact hE
theorem lr:bE Tryz.prog 97 ja:=bE.of (mode := .clean) tok bK.none mixed Tryz.func97 (by kernel_rfl) ⟨by kernel_rfl,by kernel_rfl⟩ (fun _=>Nat.le_of_ble_eq_true (by kernel_rfl)) (fun x r h=>Mm x r h)
noncomputable def mh:=dI (cH ZG (dn (cI fM))) (fun x:Bool×aw=>fW x.1 x.2) (fun r:aw×Int =>.clean (.tup [.agg [.int .i64 r.1.ah,.sl false false r.1.aa.length (ab (eI .i64) r.1.aa)],.int .i64 r.2]))
theorem iL (p0:Bool) (p1_0:Int) (p1_1:(List Int)):mh none [.bool p0,.agg [.int .i64 p1_0,.sl false false p1_1.length (ab (eI .i64) p1_1)]]=(fW p0 (aw.mk p1_0 p1_1)).map fun r:aw×Int=>(.clean (.tup [.agg [.int .i64 r.1.ah,.sl false false r.1.aa.length (ab (eI .i64) r.1.aa)],.int .i64 r.2]),none):=aC _ _ _ (p0,(aw.mk p1_0 p1_1))
theorem FM (p0:Bool) (p1:aw) (r:aw×Int) (hh:fW p0 p1=some r):aM .clean tab aU FU Tryz.f124 none [.bool p0,.agg [.int .i64 p1.ah,.sl false false p1.aa.length (ab (eI .i64) p1.aa)]]=some (.clean (.tup [.agg [.int .i64 r.1.ah,.sl false false r.1.aa.length (ab (eI .i64) r.1.aa)],.int .i64 r.2]),none):=by
 refine aq rfl Tryz.ntmps124 Tryz.results124 ?_
 unfold fW at hh
 try simp only[w,seval,-Int.reduceToNat]
 refine sp aj hh (fun _ hh =>?_) (fun _ hh =>?_)
 ·cases hh
  try simp only[w,seval,-Int.reduceToNat]
 ·cases hh
  try simp only[w,seval,-Int.reduceToNat]
theorem u6:bE Tryz.prog 124 mh:=bE.of (mode := .clean) tok bK.none mixed Tryz.func124 (by kernel_rfl) ⟨by kernel_rfl,by kernel_rfl⟩ (fun _=>Nat.le_of_ble_eq_true (by kernel_rfl)) (fun x r h=>FM x.1 x.2 r h)
noncomputable def pG:=dI (dn (aI .i64)) (fun x:Int=>jo x) (fun r:Bool =>.clean (.bool r))
theorem qu (p0:Int):pG none [.int .i64 p0]=(jo p0).map fun r:Bool=>(.clean (.bool r),none):=aC _ _ _ (p0)
theorem Mo (p0:Int) (r:Bool) (hh:jo p0=some r):aM .clean tab aU FU Tryz.f166 none [.int .i64 p0]=some (.clean (.bool r),none):=by
 refine aq rfl Tryz.ntmps166 Tryz.results166 ?_
 unfold jo at hh
 cases hh
 try simp only[w,seval,-Int.reduceToNat]
theorem y3:bE Tryz.prog 166 pG:=bE.of (mode := .clean) tok bK.none mixed Tryz.func166 (by kernel_rfl) ⟨by kernel_rfl,by kernel_rfl⟩ (fun _=>Nat.le_of_ble_eq_true (by kernel_rfl)) (fun x r h=>Mo x r h)
noncomputable def mj:=dI (cH (aI .i64) (dn (aI .i64))) (fun x:Int×Int=>fY x.1 x.2) (fun r:Int =>.clean (.int .i64 r))
theorem mG (p0:Int) (p1:Int):mj none [.int .i64 p0,.int .i64 p1]=(fY p0 p1).map fun r:Int=>(.clean (.int .i64 r),none):=aC _ _ _ (p0,p1)
noncomputable def my:Env:=(Am.ext aU 166 false pG)
theorem DR:bK Tryz.prog my:=(bK.none.add y3 false)
theorem dP:type_of% (ai @w<|ai @qu<|@my.eq_1):=⟨@w,@qu,@my.eq_1⟩
theorem FO (p0:Int) (p1:Int) (r:Int) (hh:fY p0 p1=some r):aM .clean tab my FU Tryz.f128 none [.int .i64 p0,.int .i64 p1]=some (.clean (.int .i64 r),none):=by
 refine aq rfl Tryz.ntmps128 Tryz.results128 ?_
 unfold fY at hh
 obtain⟨r1,hr1,hh⟩:=ae hh
 obtain⟨r2,hr2,hh⟩:=ae hh
 try simp only[dP,seval,-Int.reduceToNat,hr1,hr2]
 refine sp aj hh (fun _ hh =>?_) (fun _ hh =>?_)
 ·try simp only[dP,seval,-Int.reduceToNat,hr1,hr2]
  refine sp aj hh (fun _ hh =>?_) (fun _ hh =>?_)
  ·cases hh
   try simp only[dP,seval,-Int.reduceToNat,hr1,hr2]
  ·cases hh
   try simp only[dP,seval,-Int.reduceToNat,hr1,hr2]
 ·try simp only[dP,seval,-Int.reduceToNat,hr1,hr2]
  refine sp aj hh (fun _ hh =>?_) (fun _ hh =>?_)
  ·cases hh
   try simp only[dP,seval,-Int.reduceToNat,hr1,hr2]
  ·try simp only[dP,seval,-Int.reduceToNat,hr1,hr2]
   refine sp aj hh (fun _ hh =>?_) (fun _ hh =>?_)
   ·cases hh
    try simp only[dP,seval,-Int.reduceToNat,hr1,hr2]
   ·try simp only[dP,seval,-Int.reduceToNat,hr1,hr2]
    refine sp aj hh (fun _ hh =>?_) (fun _ hh =>?_)
    ·cases hh
     try simp only[dP,seval,-Int.reduceToNat,hr1,hr2]
    ·cases hh
     try simp only[dP,seval,-Int.reduceToNat,hr1,hr2]
theorem va:bE Tryz.prog 128 mj:=bE.of (mode := .clean) tok DR mixed Tryz.func128 (by kernel_rfl) ⟨by kernel_rfl,by kernel_rfl⟩ (fun _=>Nat.le_of_ble_eq_true (by kernel_rfl)) (fun x r h=>FO x.1 x.2 r h)
noncomputable def mi:=dI (cH (eZ (eI .i64)) (dn (eZ (eI .i64)))) (fun x:(List Int)×(List Int)=>fw x.1 x.2) (fun r:Int =>.clean (.int .i64 r))
theorem mF (p0:(List Int)) (p1:(List Int)):mi none [.sl false false p0.length (ab (eI .i64) p0),.sl false false p1.length (ab (eI .i64) p1)]=(fw p0 p1).map fun r:Int=>(.clean (.int .i64 r),none):=aC _ _ _ (p0,p1)
noncomputable def mw:Env:=(Am.ext aU 128 false mj)
theorem DQ:bK Tryz.prog mw:=(bK.none.add va false)
theorem cO:type_of% (ai @w<|ai @mG<|@mw.eq_1):=⟨@w,@mG,@mw.eq_1⟩
theorem FN (p0:(List Int)) (p1:(List Int)) (r:Int) (hh:fw p0 p1=some r):aM .clean tab mw FU Tryz.f129 none [.sl false false p0.length (ab (eI .i64) p0),.sl false false p1.length (ab (eI .i64) p1)]=some (.clean (.int .i64 r),none):=by
 refine aq rfl Tryz.ntmps129 Tryz.results129 ?_
 unfold fw at hh
 try simp only[cO,seval,-Int.reduceToNat]
 refine sp aj hh (fun _ hh =>?_) (fun _ hh =>?_)
 ·obtain⟨r2,hr2,hh⟩:=ae hh
  cases hh
  try simp only[cO,seval,-Int.reduceToNat,hr2]
 ·try simp only[cO,seval,-Int.reduceToNat]
  obtain⟨o8,ho8,hh⟩:=ae hh
  refine ax (fun s t H e=>match s with|s5a=>t 0=.sl false false p0.length (ab (eI .i64) p0)∧t 1=.sl false false p1.length (ab (eI .i64) p1)∧t 5=.int .i64 s5a) (fun o x t H e=>match o with|(.inl _)=>x=.exit 0|(.inr r)=>x=.ret∧eW .clean tab none [.tmp 4] ⟨t,H,e⟩=some (.clean (.int .i64 r),none)) ho8 ?_ ?_ ?_
  ·refine⟨?_,?_,?_⟩
   all_goals first|rfl|(simp only[cO,seval,-Int.reduceToNat]<;>rfl)
  ·rintro s5a t H e Za c hh
   simp only[k9]at hh
   try simp only[cO,seval,-Int.reduceToNat,Za]
   refine sp aj hh (fun _ hh =>?_) (fun _ hh =>?_)
   ·obtain⟨x10,hx10,hh⟩:=ae hh
    have ax10:=bF (eI .i64) hx10
    simp only[b6]at ax10
    obtain⟨x11,hx11,hh⟩:=ae hh
    have ax11:=bF (eI .i64) hx11
    simp only[b6]at ax11
    try simp only[cO,seval,-Int.reduceToNat,Za,ax10,ax11]
    refine cf (by kernel_rfl) ?_
    try simp only[cO,seval,-Int.reduceToNat,Za,ax10,ax11]
    refine sp aj hh (fun _ hh =>?_) (fun _ hh =>?_)
    ·have ax10:=bF (eI .i64) hx10
     simp only[b6]at ax10
     have ax11:=bF (eI .i64) hx11
     simp only[b6]at ax11
     obtain⟨r13,hr13,hh⟩:=ae hh
     try simp only[cO,seval,-Int.reduceToNat,Za,ax10,ax11,ax10,ax11,hr13]
     refine cf (by kernel_rfl) ?_
     cases hh
     try simp only[cO,seval,-Int.reduceToNat,Za,ax10,ax11,ax10,ax11,hr13]
     refine pc ⟨rfl,?_⟩
     try simp only[cO,seval,-Int.reduceToNat,Za,ax10,ax11,ax10,ax11,hr13]
    ·cases hh
     try simp only[cO,seval,-Int.reduceToNat,Za,ax10,ax11]
     refine gA ?_
     refine⟨?_,?_,?_⟩
     all_goals first|rfl|(simp only[cO,seval,-Int.reduceToNat,Za,ax10,ax11]<;>rfl)
   ·cases hh
    try simp only[cO,seval,-Int.reduceToNat,Za]
    refine iS ?_
    exact rfl
  ·rintro x t H e hx
   rcases o8 with _|ra
   ·dsimp only at hx hh
    subst hx
    cases hh
    try simp only[cO,seval,-Int.reduceToNat]
   ·dsimp only at hx hh
    obtain⟨rfl,hE⟩:=hx
    cases hh
    try simp only[aO,aG,aW,bX,bW]
    exact hE
theorem u7:bE Tryz.prog 129 mi:=bE.of (mode := .clean) tok DQ mixed Tryz.func129 (by kernel_rfl) ⟨by kernel_rfl,by kernel_rfl⟩ (fun _=>Nat.le_of_ble_eq_true (by kernel_rfl)) (fun x r h=>FN x.1 x.2 r h)
noncomputable def oI:=dI (dn (eZ (eI .i64))) (fun x:(List Int)=>eL x) (fun r:(List Int) =>.clean (.sl false false r.length (ab (eI .i64) r)))
theorem kb (p0:(List Int)):oI none [.sl false false p0.length (ab (eI .i64) p0)]=(eL p0).map fun r:(List Int)=>(.clean (.sl false false r.length (ab (eI .i64) r)),none):=aC _ _ _ (p0)
theorem OX (p0:(List Int)) (r:(List Int)) (hh:eL p0=some r):aM .clean tab aU FU Tryz.f163 none [.sl false false p0.length (ab (eI .i64) p0)]=some (.clean (.sl false false r.length (ab (eI .i64) r)),none):=by
 refine aq rfl Tryz.ntmps163 Tryz.results163 ?_
 unfold eL at hh
 try simp only[w,seval,-Int.reduceToNat]
 obtain⟨o4,ho4,hh⟩:=ae hh
 refine ax (fun s t H e=>match s with|s3a=>t 0=.sl false false p0.length (ab (eI .i64) p0)∧t 3=.int .i64 s3a) (fun o x t H e=>match o with|s3ax=>x=.exit 0∧t 0=.sl false false p0.length (ab (eI .i64) p0)∧t 3=.int .i64 s3ax) ho4 ?_ ?_ ?_
 ·refine⟨?_,?_⟩
  all_goals first|rfl|(simp only[w,seval,-Int.reduceToNat]<;>rfl)
 ·rintro s3a t H e Za c hh
  simp only[kq]at hh
  try simp only[w,seval,-Int.reduceToNat,Za]
  refine sp bd hh (fun _ hh =>?_) (fun _ hh =>?_)
  ·obtain⟨x6,hx6,hh⟩:=ae hh
   have ax6:=bF (eI .i64) hx6
   simp only[b6]at ax6
   try simp only[w,seval,-Int.reduceToNat,Za,ax6]
   refine sp aj hh (fun _ hh =>?_) (fun _ hh =>?_)
   ·cases hh
    try simp only[w,seval,-Int.reduceToNat,Za,ax6]
    refine gA ?_
    refine⟨?_,?_⟩
    all_goals first|rfl|(simp only[w,seval,-Int.reduceToNat,Za,ax6]<;>rfl)
   ·cases hh
    try simp only[w,seval,-Int.reduceToNat,Za,ax6]
    refine iS ?_
    refine⟨rfl,⟨?_,?_⟩⟩
    all_goals first|rfl|(simp only[w,seval,-Int.reduceToNat,Za,ax6]<;>rfl)
  ·cases hh
   try simp only[w,seval,-Int.reduceToNat,Za]
   refine iS ?_
   refine⟨rfl,⟨?_,?_⟩⟩
   all_goals first|rfl|(simp only[w,seval,-Int.reduceToNat,Za]<;>rfl)
 ·rintro x t H e hx
  obtain⟨s3ax,rfl⟩:∃z,z=o4:=⟨_,rfl⟩
  dsimp only at hx hh
  obtain⟨rfl,Zax⟩:=hx
  obtain⟨x8,hx8,hh⟩:=ae hh
  obtain⟨q9a,q9b,q9c,q9d,q9e⟩:=E2 (eI .i64) hx8
  simp only[b6]at q9e
  cases hh
  try simp only[w,seval,-Int.reduceToNat,Zax,q9a,q9b,q9c,q9d,q9e]
theorem u9:bE Tryz.prog 163 oI:=bE.of (mode := .clean) tok bK.none mixed Tryz.func163 (by kernel_rfl) ⟨by kernel_rfl,by kernel_rfl⟩ (fun _=>Nat.le_of_ble_eq_true (by kernel_rfl)) (fun x r h=>OX x r h)
noncomputable def rJ:=Yg 3 (eI .i64) (WJ) (fun (l:(List Int)) (x:Unit)=>eL l)
theorem JW (pre post:List D) (p0:(List Int)):rJ (some (.buf 0 0 1 pre.length p0.length,⟨0,3,pre++(ab (eI .i64) p0++post),false,true,false⟩)) []=(eL p0).map fun r=>(.fresh 3 1 r.length (ab (eI .i64) r),none):=Vi _ _ _ _ pre post p0 ()
theorem Jn (pre post:List D) (p0:(List Int)) (r:(List Int)) (hh:eL p0=some r):aM (.fresh 3 1) tab aU FU Tryz.f163 (some (.buf 0 0 1 pre.length p0.length,⟨0,3,pre++(ab (eI .i64) p0++post),false,true,false⟩)) []=some (.fresh 3 1 r.length (ab (eI .i64) r),none):=by
 refine pB rfl Tryz.ntmps163 Tryz.results163 ?_
 unfold eL at hh
 try simp only[w,seval,-Int.reduceToNat]
 obtain⟨o4,ho4,hh⟩:=ae hh
 refine ax (fun s t H e=>match s with|s3a=>∃v0a:Nat,t 0=.buf 0 v0a 1 pre.length (p0).length∧t 3=.int .i64 s3a∧H 0=some ⟨v0a,3,pre++(ab (eI .i64) p0++post),false,true,false⟩) (fun o x t H e=>match o with|s3ax=>x=.exit 0∧∃v0ax:Nat,t 0=.buf 0 v0ax 1 pre.length (p0).length∧t 3=.int .i64 s3ax∧H 0=some ⟨v0ax,3,pre++(ab (eI .i64) p0++post),false,true,false⟩) ho4 ?_ ?_ ?_
 ·refine⟨0,?_,?_,?_⟩
  all_goals first|rfl|(simp only[w,seval,-Int.reduceToNat]<;>rfl)
 ·rintro s3a t H e ⟨v0a,Za⟩ c hh
  simp only[kq]at hh
  try simp only[w,seval,-Int.reduceToNat,Za]
  refine sp bd hh (fun _ hh =>?_) (fun _ hh =>?_)
  ·obtain⟨x6,hx6,hh⟩:=ae hh
   have ax6:=uS (pre:=pre) (post:=post) (eI .i64) hx6
   simp only[b6]at ax6
   try simp only[w,seval,-Int.reduceToNat,Za,ax6]
   refine sp aj hh (fun _ hh =>?_) (fun _ hh =>?_)
   ·cases hh
    try simp only[w,seval,-Int.reduceToNat,Za,ax6]
    refine gA ?_
    refine⟨v0a,?_,?_,?_⟩
    all_goals first|rfl|(simp only[w,seval,-Int.reduceToNat,Za,ax6]<;>rfl)
   ·cases hh
    try simp only[w,seval,-Int.reduceToNat,Za,ax6]
    refine iS ?_
    refine⟨rfl,⟨v0a,?_,?_,?_⟩⟩
    all_goals first|rfl|(simp only[w,seval,-Int.reduceToNat,Za,ax6]<;>rfl)
  ·cases hh
   try simp only[w,seval,-Int.reduceToNat,Za]
   refine iS ?_
   refine⟨rfl,⟨v0a,?_,?_,?_⟩⟩
   all_goals first|rfl|(simp only[w,seval,-Int.reduceToNat,Za]<;>rfl)
 ·rintro x t H e hx
  obtain⟨s3ax,rfl⟩:∃z,z=o4:=⟨_,rfl⟩
  dsimp only at hx hh
  obtain⟨rfl,⟨v0ax,Zax⟩⟩:=hx
  obtain⟨x8,hx8,hh⟩:=ae hh
  obtain⟨q9a,q9b,q9c,q9d,q9e⟩:=E2 (eI .i64) hx8
  simp only[b6]at q9e
  obtain⟨q9f,q9g⟩:=Xz (pre:=pre) (post:=post) (eI .i64) hx8
  simp only[b6]at q9f q9g
  cases hh
  try simp only[w,seval,-Int.reduceToNat,Zax,q9a,q9b,q9c,q9f,q9g,q9d]
theorem FZ:bE Tryz.prog 163 rJ:=bE.ZX tok bK.none mixed Tryz.func163 (by kernel_rfl) ⟨by kernel_rfl,by kernel_rfl⟩ (fun _=>Nat.le_of_ble_eq_true (by kernel_rfl)) (fun pre post l x r h=>Jn pre post l r h)
noncomputable def uc:=dI (cH (eZ (eI .i64)) (dn (aI .i64))) (fun x:(List Int)×Int=>kp x.1 x.2) (fun r:(List Int)×Int =>.clean (.tup [.sl false false r.1.length (ab (eI .i64) r.1),.int .i64 r.2]))
theorem Bn (p0:(List Int)) (p1:Int):uc none [.sl false false p0.length (ab (eI .i64) p0),.int .i64 p1]=(kp p0 p1).map fun r:(List Int)×Int=>(.clean (.tup [.sl false false r.1.length (ab (eI .i64) r.1),.int .i64 r.2]),none):=aC _ _ _ (p0,p1)
noncomputable def pS:Env:=(Am.ext aU 163 false oI)
theorem I2:bK Tryz.prog pS:=(bK.none.add u9 false)
theorem ic:type_of% (ai @w<|ai @kb<|@pS.eq_1):=⟨@w,@kb,@pS.eq_1⟩
theorem Mn (p0:(List Int)) (p1:Int) (r:(List Int)×Int) (hh:kp p0 p1=some r):aM .clean tab pS FU Tryz.f162 none [.sl false false p0.length (ab (eI .i64) p0),.int .i64 p1]=some (.clean (.tup [.sl false false r.1.length (ab (eI .i64) r.1),.int .i64 r.2]),none):=by
 refine aq rfl Tryz.ntmps162 Tryz.results162 ?_
 unfold kp at hh
 obtain⟨x1,hx1,hh⟩:=ae hh
 obtain⟨q2a,q2b,q2c,q2d,q2e⟩:=mk_one (eI .i64) hx1
 simp only[b6]at q2d
 try simp only[ic,seval,-Int.reduceToNat,q2a,q2b,q2c,q2d,q2e]
 obtain⟨o13,ho13,hh⟩:=ae hh
 refine ax (fun s t H e=>match s with|(s7a,s8a,l6a)=>∃v6a:Nat,t 0=.sl false false p0.length (ab (eI .i64) p0)∧t 1=.int .i64 p1∧t 6=.buf 6 v6a 1 0 (l6a).length∧t 7=.int .i64 s7a∧t 8=.int .i64 s8a∧H 6=some ⟨v6a,3,ab (eI .i64) l6a,false,true,false⟩) (fun o x t H e=>match o with|(s7ax,l6ax)=>x=.exit 0∧∃v6ax:Nat,t 6=.buf 6 v6ax 1 0 (l6ax).length∧t 7=.int .i64 s7ax∧H 6=some ⟨v6ax,3,ab (eI .i64) l6ax,false,true,false⟩) ho13 ?_ ?_ ?_
 ·refine⟨1,?_,?_,?_,?_,?_,?_⟩
  all_goals first|rfl|(simp only[ic,seval,-Int.reduceToNat,q2a,q2b,q2c,q2d,q2e]<;>rfl)
 ·rintro⟨s7a,s8a,l6a⟩ t H e ⟨v6a,Za⟩ c hh
  simp only[nQ]at hh
  try simp only[ic,seval,-Int.reduceToNat,q2a,q2b,q2c,q2d,q2e,Za]
  refine sp aj hh (fun _ hh =>?_) (fun _ hh =>?_)
  ·obtain⟨x15,hx15,hh⟩:=ae hh
   have q16:=Cq hx15
   obtain⟨x17,hx17,hh⟩:=ae hh
   have ax17:=bF (eI .i64) hx17
   simp only[b6]at ax17
   obtain⟨x18,hx18,hh⟩:=ae hh
   have q19:=sj hx18
   obtain⟨x20,hx20,hh⟩:=ae hh
   have ax20:=bF (eI .i64) hx20
   simp only[b6]at ax20
   have p21:=qt (eI .i64) (x':=x18) (fo:=0) (cs:=[.int .i64 x18]) hx20 rfl (Nat.le_of_ble_eq_true rfl)
   simp only[b6,Nat.add_zero]at p21
   have up21:=p21
   simp only[putCells,List.length_cons,List.length_nil,Nat.zero_add,Nat.reduceAdd]at up21
   obtain⟨x22,hx22,hh⟩:=ae hh
   have q23:=qo hx22
   cases hh
   try simp only[ic,seval,-Int.reduceToNat,q2a,q2b,q2c,q2d,q2e,Za,q16,ax17,q19,ax20,p21,up21,q23]
   refine gA ?_
   refine⟨v6a,?_,?_,?_,?_,?_,?_⟩
   all_goals first|rfl|(simp only[ic,seval,-Int.reduceToNat,q2a,q2b,q2c,q2d,q2e,Za,q16,ax17,q19,ax20,p21,up21,q23]<;>rfl)
  ·cases hh
   try simp only[ic,seval,-Int.reduceToNat,q2a,q2b,q2c,q2d,q2e,Za]
   refine iS ?_
   refine⟨rfl,⟨v6a,?_,?_,?_⟩⟩
   all_goals first|rfl|(simp only[ic,seval,-Int.reduceToNat,q2a,q2b,q2c,q2d,q2e,Za]<;>rfl)
 ·rintro x t H e hx
  rcases o13 with⟨s7ax,l6ax⟩
  dsimp only at hx hh
  obtain⟨rfl,⟨v6ax,Zax⟩⟩:=hx
  obtain⟨r24,hr24,hh⟩:=ae hh
  cases hh
  try simp only[ic,seval,-Int.reduceToNat,q2a,q2b,q2c,q2d,q2e,Zax,hr24]
theorem JI:bE Tryz.prog 162 uc:=bE.of (mode := .clean) tok I2 mixed Tryz.func162 (by kernel_rfl) ⟨by kernel_rfl,by kernel_rfl⟩ (fun _=>Nat.le_of_ble_eq_true (by kernel_rfl)) (fun x r h=>Mn x.1 x.2 r h)
noncomputable def vr:=dI (cH (eZ (eI .i64)) (dn (eZ (eI .i64)))) (fun x:(List Int)×(List Int)=>nP x.1 x.2) (fun r:(List Int) =>.fresh 3 1 r.length (ab (eI .i64) r))
theorem oE (p0:(List Int)) (p1:(List Int)):vr none [.sl false false p0.length (ab (eI .i64) p0),.sl false false p1.length (ab (eI .i64) p1)]=(nP p0 p1).map fun r:(List Int)=>(.fresh 3 1 r.length (ab (eI .i64) r),none):=aC _ _ _ (p0,p1)
noncomputable def vL:Env:=(Am.ext aU 163 true rJ)
theorem OG:bK Tryz.prog vL:=(bK.none.add FZ true)
theorem eP:type_of% (ai @w<|@vL.eq_1):=⟨@w,@vL.eq_1⟩
end Go.Proofs.YtpkahnkoecbndaaGreatDoor.Am
