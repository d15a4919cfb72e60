/- Part of a proof, made small by a program (wip/mini.py). -/
import Derived.Test.YtpkahnkoecbndaaGreatDoorZc
namespace Go.Proofs.YtpkahnkoecbndaaGreatDoor.Am
open Go.RowKit Go.Shelf Go.Proofs.YtpkahnkoecbndaaGreatDoor.P
set_option linter.unusedSimpArgs false
set_option linter.unusedVariables false
set_option maxHeartbeats 1000000 in
theorem TO (Bs Bo:Nat) (sv:Value) (zs:List Int) (hreach:zs.length*8≤140737488351232) (w:World) (hBs:Bs<w.heap.size) (hc:w.cell? ⟨Bs,Bo,none⟩=some sv) (hI:Ints w.heap.size w sv zs) :
  Calls Tryz.prog 115 #[.func (.func 156) #[] #[.pointer (some ⟨Bs,Bo,none⟩)]] w fun e w'=>∃ v,e = .returned v∧Below w.heap.size w w' ∧
   ((zs=[]∧v = .slice none 0 0)∨∃ g cap cs,v = .slice (some ⟨g,0,none⟩) zs.length cap∧w.heap.size≤g∧w'.heap[g]? = some (.cells cs 3 (0,0))∧zs.length≤cap∧cap≤maxLen∧cs.size=cap∧∀ j,j<zs.length→cs.getD j undef = .int .i64 ((gn zs).getD j 0)):=by
 refine (callsIn_wide (n:=6)).1 ?_
 have hN:(1:Nat)≤6:=by omega
 have cC:=collect_in Fence.wide 5 trivial trivial trivial rfl (by omega) Bs Bo sv zs hreach w hBs hc hI
 refine callsIn_of_wp Tryz.func115 rfl trivial ?_ rfl
 simp only [Tryz.ntmps115,List.size_toArray,List.length_cons,List.length_nil,Nat.reduceAdd,Nat.reduceSub,Array.replicate_succ,Array.replicate_zero,List.push_toArray,List.append_toArray,List.nil_append,List.cons_append]
 have hf1:Fence.wide.fn 155:=trivial
 have hf2:Fence.wide.fn 69:=trivial
 have cS:Qf Tryz.prog 69:=fun blk off cap zs w hH hb hl=>Any.slices_Sort_int Tryz.GN blk off cap zs w hH hb hl
 by_cases hz:zs=[]
 ·subst hz
  gi_wp2_with (first
   | (gi_at_call 155; refine cC.mono ?_; clear cC; rintro e w' ⟨v,rfl,hrow,hnil,hb⟩; obtain rfl:v = .slice none 0 0:=hnil.2 rfl)
   | (gi_at_call 69; refine (callsIn_wide.2 (Any.slices_Sort_int_none Tryz.GN _ _ _)).mono ?_; rintro e2 w2 ⟨rfl,rfl⟩))
  go_ret
  first | exact ⟨_,rfl,hb,.inl rfl⟩ | exact ⟨_,rfl,hb,.inl ⟨rfl,rfl⟩⟩
 ·gi_wp2_with (gi_at_call 155; refine cC.mono ?_; clear cC; rintro e w' ⟨v,rfl,hrow,hnil,hb⟩; obtain ⟨g,cap,cur,rfl,k1,k2,k3,k4,k5,k6⟩ : ∃ g cap cur,v = .slice (some ⟨g,0,none⟩) zs.length cap∧w.heap.size≤g∧w'.heap[g]? = some (.cells cur 3 (0,0))∧zs.length≤cap∧cap≤maxLen∧cur.size=cap*1∧cur.toList.take (zs.length*1)=zs.map (Value.int .i64):=hrow.2.resolve_left (fun hv=>hz (hnil.1 hv.1)))
  rw [Nat.mul_one] at k5 k6
  have hcur : ∀ j,j<zs.length→cur[j]? = some (.int .i64 (zs.getD j 0)):=by
   intro j hj
   have:(cur.toList.take zs.length)[j]? = (zs.map (Value.int .i64))[j]?:=by rw [k6]
   rw [List.getElem?_take,if_pos hj,List.getElem?_map,Array.getElem?_toList] at this
   rw [this]
   simp [List.getD,hj]
  have hH:Go.Sort.Holds (Value.int .i64) w' g 0 zs.toArray:=by
   intro j hj
   simp only [List.size_toArray] at hj
   refine ⟨?_,by simp [World.frozen?,k2]⟩
   simp only [World.cell?,k2,Nat.zero_add]
   rw [hcur j hj]
   simp [List.getD,hj]
  have hlt:g<w'.heap.size:=(Array.getElem?_eq_some_iff.1 k2).1
  gi_wp2_with (gi_at_call 69; refine (callsIn_wide.2 (cS g 0 cap zs w' hH hlt (by omega))).mono ?_; rintro e2 w2 ⟨rfl,q,os,rfl⟩)
  go_ret
  refine ⟨_,rfl,?_,.inr ⟨g,cap,Go.Sort.putCells (Value.int .i64) 0 (gn zs).toArray cur,rfl,k1,?_,k3,k4,?_,fun j hj => ?_⟩⟩
  ·refine ⟨hb.os,hb.tape,hb.output,Nat.le_trans hb.size (by simp [Go.Sort.grow,Go.Sort.ahead]),fun k hk => ?_⟩
   have hk':k<w'.heap.size:=Nat.lt_of_lt_of_le hk hb.size
   rw [Go.Sort.heap_grow_old _ _ (by simpa [Go.Sort.ahead] using hk'),kF (by omega)]
   exact hb.block k hk
  ·rw [Go.Sort.heap_grow_old _ _ (by simpa [Go.Sort.ahead] using hlt)]
   exact sO k2
  ·simp [Go.Sort.putCells,k5]
  ·rw [qp (by omega),if_pos (by rw [fA]; omega),Nat.sub_zero]
theorem PZ:bW Tryz.prog 116 (eZ (ef (ie (eI .i64))) Ah (fun r => .clean (.clo 156 0 [.ip [.sl false false r.length (ab (eI .i64) r)]]))) where
 callable:=⟨_,Tryz.func116,by kernel_rfl,by kernel_rfl⟩
 calls lent ds rk out hg:=by
  obtain ⟨rfl,rfl,l,r,rfl,hr,rfl⟩:=pe hg
  cases hr
  intro w M vs hM hargs
  have hsz:vs.size=1:=hargs.size
  rw [MN hsz]
  have hu:=hargs.at_ 0 _ rfl
  generalize vs.getD 0 undef=u at *
  have hu':RP w M (.sl false false l.length (ab (eI .i64) l)) u:=hu
  obtain ⟨A,c,rfl,-⟩:=Gc hu'
  refine (TY A l.length c w).mono fun e w' ⟨he,hw⟩ => ?_
  subst hw
  have hb:Below w.heap.size w (w.alloc (.cells #[.slice A l.length c] 25)):=(Below.refl _ w).alloc (Nat.le_refl _) _
  have hk : ∀ b,b<w.heap.size→¬ M b→b<(w.alloc (.cells #[.slice A l.length c] 25)).heap.size∧¬ M b∧(w.alloc (.cells #[.slice A l.length c] 25)).heap[b]? = w.heap[b]?:=fun b h1 h2=>⟨by simp; omega,h2,hb.block b h1⟩
  refine ⟨_,he,hb,RP.clo _ 0 _ [.pointer (some ⟨w.heap.size,0,none⟩)] rfl fun j x hj => ?_⟩
  cases j with
  | succ j=>simp at hj
  | zero =>
   simp only [List.getElem?_cons_zero,Option.some.injEq] at hj
   subst hj
   refine RP.ip _ ⟨w.heap.size,0,none⟩ (fun _ => .slice A l.length c) (fun _=>⟨w.heap.size,0,rfl,by simp,fun h=>by have:=hM _ h; omega,fun j hj => ?_⟩) (fun j x hj => ?_) (fun x hx => ?_)
   ·simp only [List.length_cons,List.length_nil] at hj
    have:j=0:=by omega
    subst this
    exact (bC (heap_alloc_new w _) (j:=0) (by simp)).trans rfl
   ·cases j with
    | succ j=>simp at hj
    | zero =>
     simp only [List.getElem?_cons_zero,Option.some.injEq] at hj
     subst hj
     exact hu'.keep hk
   ·simp only [List.mem_singleton] at hx
    subst hx
    rfl
theorem PT:bW Tryz.prog 115 (eZ (ef (Qg 156 0 (ef (Qh (oS (eI .i64)))))) wX (fun r => .fresh 3 1 r.length (ab (eI .i64) r))) where
 callable:=⟨_,Tryz.func115,by kernel_rfl,by kernel_rfl⟩
 calls lent ds rk out hg:=by
  obtain ⟨rfl,rfl,l,r,rfl,hr,rfl⟩:=pe hg
  unfold wX at hr
  split at hr
  rotate_left
  ·cases hr
  rename_i hreach
  cases hr
  intro w M vs hM hargs
  have hsz:vs.size=1:=hargs.size
  rw [MN hsz]
  have hu:=hargs.at_ 0 _ rfl
  generalize vs.getD 0 undef=u at *
  have hu':RP w M (.clo 156 0 [.ip [.sl false false l.length (ab (eI .i64) l)]]) u:=hu
  cases hu' with
  | clo f kk xs us h1 h2 =>
   have hp:=h2 0 _ rfl
   have hus:us=[us.getD 0 undef]:=by
    match us,h1 with
    | [x],_=>rfl
   rw [hus]
   generalize us.getD 0 undef=q at *
   cases hp with
   | ip xs ad us2 h6 h7 h8 =>
    obtain ⟨b,o,rfl,hb,hMb,hcell⟩:=h6 (by simp)
    have hcell0:=hcell 0 (by simp)
    rw [Nat.add_zero] at hcell0
    have hs:=h7 0 _ rfl
    have hI:Ints w.heap.size w (us2 0) l:=by
     obtain ⟨A,c,hA,k1,k2,k3,k4⟩:=Gc hs
     rw [hA]
     by_cases hl:l=[]
     ·subst hl; exact .inl ⟨A,c,rfl,rfl⟩
     ·obtain ⟨b',o',rfl,hb',hM',hc'⟩:=k4 hl
      exact .inr ⟨b',o',c,rfl,hb',fun j hj=>by rw [hc' j hj]; simp [List.getD]⟩
    refine (TO b o (us2 0) l hreach w hb hcell0 hI).mono fun e w' ⟨v,he,hbw,hv⟩ => ?_
    refine ⟨v,he,hbw,?_⟩
    rcases hv with ⟨rfl,rfl⟩ | ⟨g,cap,cs,rfl,k1,k2,k3,k4,k5,k6⟩
    ·refine .inr ⟨?_,?_,none,rfl⟩
     ·rw [yg]; rfl
     ·rw [yg]; rfl
    ·refine .inl ⟨(g,0),cap,cs,by rw [fA],.inl k1,k2,by rw [fA]; exact k3,k4,by simp only; omega,by rw [cc,fA]; simp only; omega,fun j d hj => ?_⟩
     have hjl:=(List.getElem?_eq_some_iff.1 hj).1
     rw [cc,fA] at hjl
     rw [iV,Option.map_eq_some_iff] at hj
     obtain ⟨z,hz,rfl⟩:=hj
     simp only [Nat.zero_add]
     rw [k6 j hjl]
     have:(gn l).getD j 0=z:=by simp [List.getD,hz]
     rw [this]
     exact ⟨rfl,.int _ _⟩
end Go.Proofs.YtpkahnkoecbndaaGreatDoor.Am
namespace Go.Proofs.YtpkahnkoecbndaaGreatDoor.Am
open Go.RowKit Go.Proofs.YtpkahnkoecbndaaGreatDoor.P Go.Shelf
set_option linter.unusedSimpArgs false
set_option linter.unusedVariables false
theorem UE:(Tryz.prog.info? 150).map (·.size)=some 2:=by kernel_rfl
theorem V2:liesAt Tryz.prog Tryz.prog.depth 150 (2 / Tryz.prog.cellsOf 150) 0 150 1=true:=by kernel_rfl
theorem U5:(Tryz.prog.info? 5).map (fun i=>(i.zero,i.size,i.bytes))=some (some (.int .u8 0),1,1):=by kernel_rfl
set_option maxRecDepth 100000 in
theorem Te (b:Nat) (w:World) (h0:w.cell? ⟨b,0,none⟩=some (.pointer (some ⟨b,0,none⟩))) :
  Calls Tryz.prog 160 #[.pointer (some ⟨b,0,none⟩)] w fun e w'=>e = .returned (.tuple #[])∧w'=w:=by
 obtain ⟨j,hj,_⟩:=Option.map_eq_some_iff.1 UE
 go_enter Tryz.func160,Tryz.ntmps160
 go_wp2
 rw [Lib.run_neq_ptr_same w _ Tryz.underlying147 hj]
 go_wp2
 go_end0
 exact ⟨rfl,rfl⟩
set_option maxHeartbeats 1000000 in
set_option maxRecDepth 100000 in
theorem QJ (b:Nat) (w:World) (h0:w.cell? ⟨b,0,none⟩=some (.pointer none)) (hsh:w.shape? b=some (150,2)) (hfz:w.frozen? ⟨b,0,none⟩=false) :
  Calls Tryz.prog 160 #[.pointer (some ⟨b,0,none⟩)] w fun e w'=>e = .returned (.tuple #[])∧w'=w.setCell ⟨b,0,none⟩ (.pointer (some ⟨b,0,none⟩)):=by
 obtain ⟨j,hj,hjs⟩:=Option.map_eq_some_iff.1 UE
 go_enter Tryz.func160,Tryz.ntmps160
 go_wp2
 rw [Lib.run_to_unsafe w ⟨b,0,none⟩ Tryz.underlying147 Tryz.underlying192 hj (by rw [hjs]; decide) hsh (Nat.zero_lt_succ 1)]
 simp only [Result.andThen]
 rw [Oper.upon_value]
 go_wp2
 rw [run_callFunc_extern Tryz.func178 (by kernel_rfl) (by kernel_rfl) (by kernel_rfl) (e:=Extern.AbiNoEscape.same) (by kernel_rfl)]
 rw [Lib.run_noEscape]
 simp only [Result.andThen]
 rw [Oper.upon_value]
 go_wp2
 rw [Lib.run_from_unsafe w ⟨b,0,none⟩ Tryz.underlying192 Tryz.underlying147 hj hsh V2]
 simp only [Result.andThen]
 rw [Oper.upon_value]
 go_wp2
 go_end0
 exact ⟨rfl,rfl⟩
theorem O0 (B b:Nat) (bs:List Value) (w:World) (h:Lib.IsBuilder 150 5 B b bs w) :
  Calls Tryz.prog 160 #[.pointer (some ⟨b,0,none⟩)] w fun e w'=>e = .returned (.tuple #[])∧(Lib.BuilderAt 150 5 B b (.pointer (some ⟨b,0,none⟩)) bs w'∧Below B w w'):=by
 rcases h with h | h
 ·refine (QJ b w h.cell0 h.shape h.frozen0).mono ?_
  rintro e w' ⟨rfl,rfl⟩
  exact ⟨rfl,h.used _,(Below.refl B w).setCell (p:=⟨b,0,none⟩) h.1 _⟩
 ·refine (Te b w h.cell0).mono ?_
  rintro e w' ⟨rfl,rfl⟩
  exact ⟨rfl,h,Below.refl B _⟩
set_option maxHeartbeats 2000000 in
set_option maxRecDepth 100000 in
theorem VE (B b:Nat) (bs:List Value) (s:ByteArray) (w:World) (h:Lib.IsBuilder 150 5 B b bs w) (hlen:bs.length+s.size≤140737488355328) (hBw:B≤w.heap.size) :
  Calls Tryz.prog 120 #[.pointer (some ⟨b,0,none⟩),.string s] w fun e w'=>e = .returned (.tuple #[.int .i64 s.size,.nilIface])∧(Lib.BuilderAt 150 5 B b (.pointer (some ⟨b,0,none⟩)) (bs++Lib.strCells s) w'∧Below B w w'):=by
 obtain ⟨i0,hi,hz0,hz1,hz2⟩:=info_parts U5
 go_enter Tryz.func120,Tryz.ntmps120
 go_wp2_with (go_at_call 160; refine (O0 B b bs _ h).mono ?_)
 rintro e w1 ⟨rfl,h1,hb1⟩
 obtain ⟨hB,v,hbk,hown,hne⟩:=h1
 have c0:w1.cell? ⟨b,0,none⟩=some (.pointer (some ⟨b,0,none⟩)):=by rw [Lib.cell_of_heap hbk]; rfl
 have c1:w1.cell? ⟨b,1,none⟩=some v:=by rw [Lib.cell_of_heap hbk]; rfl
 go_wp2_with (at_builtin; refine Lib.wpList_append_own_string _ rfl _ _ 148 9 rfl B 5 i0 Tryz.underlying148 Tryz.underlying9 hi hz0 hz1 hz2 _ _ _ rfl hown s rfl ?c3 ?c4 ?c5 ?_)
 case c3=>unfold maxLen; omega
 case c4=>omega
 case c5=>have:=hb1.size; omega
 intro v' w2 hown' hgrow _
 have hlt:b<w1.heap.size:=(Array.getElem?_eq_some_iff.1 hbk).1
 have hb2:w2.heap[b]? = some (.cells #[.pointer (some ⟨b,0,none⟩),v] 150 (0,0)):=by
  rw [hgrow.block b hlt (fun e=>hne e.symm)]
  exact hbk
 have d0:w2.cell? ⟨b,0,none⟩=some (.pointer (some ⟨b,0,none⟩)):=by rw [Lib.cell_of_heap hb2]; rfl
 have d1:w2.cell? ⟨b,1,none⟩=some v:=by rw [Lib.cell_of_heap hb2]; rfl
 have f1:w2.frozen? ⟨b,1,none⟩=false:=Lib.frozen_of_heap hb2 1
 obtain ⟨ao,n',cap,rfl⟩ : ∃ ao n' cap,v' = .slice ao n' cap:=by
  rcases hown'.2 with ⟨hv,_⟩ | ⟨g,cap,cur,hv,_⟩
  ·exact ⟨_,_,_,hv⟩
  ·exact ⟨_,_,_,hv⟩
 go_wp2
 go_ret2
 refine ⟨rfl,?_,?_⟩
 ·exact Lib.BuilderAt.put (T:=150) (e:=5) hB hb2 (bs':=bs++Lib.strCells s) (by simpa [Lib.strCells_length] using hown') (by decide)
 ·exact (hb1.grown hgrow (by have:=hb1.size; omega) (fun k hk=>(hown.lt k hk).1)).setCell (p:=⟨b,1,none⟩) hB _
theorem Oz (B b:Nat) (l:List UInt8) (w:World) (h:Lib.IsBuilder 150 5 B b (Lib.byteCells l) w) (hBw:B≤w.heap.size) :
  Calls Tryz.prog 122 #[.pointer (some ⟨b,0,none⟩)] w fun e w'=>e = .returned (.string ⟨l.toArray⟩)∧Below B w w':=Any.Builder_String_any Tryz.Tu Tryz.Q9 B b l w h hBw
theorem Sa {P:Program} {w:World} {nm:String} {g ty:Nat} {fr:Nat×Nat} (hg:P.globalNamed nm=some g) (h:w.heap[g]? = some (.cells mi ty fr)):Lib.TabIs P w nm .u64 Lib.pow10Tab:=by
 simp only [Lib.TabIs,World.var?,hg,Option.bind_some,h]
 simp [Lib.pow10Tab,mi]
theorem Le (w:World) (k:Nat) (os:Array Obj):Below w.heap.size w (Go.Sort.grow (w.drewN k) os) :=
 ⟨rfl,rfl,rfl,by simp [Go.Sort.grow],fun j hj=>Go.Sort.heap_grow_old (w.drewN k) os hj⟩
theorem Rn:VH Tryz.prog 121:=fun n w h0 h1 ht=>by
 refine (Any.strconv_Itoa Tryz.Rq n h0 h1 w ?_).mono ?_
 ·obtain ⟨ty,fr,h⟩:=ht 0 rfl
  exact Sa (by kernel_rfl) h
 ·rintro e w' ⟨rfl,k,os,rfl⟩
  exact ⟨rfl,Le w k os⟩
theorem Ax (a b:List UInt8):(⟨a.toArray⟩:ByteArray)++⟨b.toArray⟩=⟨(a++b).toArray⟩:=by
 apply ByteArray.ext
 simp
theorem vg (n:Int) (h0 : -9223372036854775808≤n) (h1:n≤9223372036854775807):(B0 n).size≤21:=by
 have:=Lib.itoa_length_le n h0 h1
 simpa [B0,ByteArray.size] using this
theorem T2 (n:Int) (w:World) (h0 : -9223372036854775808≤n) (h1:n≤9223372036854775807) (ht : ∀ b,qI=some b→∃ ty fr,w.heap[b]? = some (.cells mi ty fr)) :
  Calls Tryz.prog 94 #[.int .i64 n] w fun e w'=>e = .returned (.string ⟨(Lib.itoa n++[59]).toArray⟩)∧Below w.heap.size w w':=by
 have hsz:=vg n h0 h1
 have e1:B0 n++⟨#[59]⟩=⟨(Lib.itoa n++[59]).toArray⟩:=Ax (Lib.itoa n) [59]
 go_enter Tryz.func94,Tryz.ntmps94
 go_wp2_with (go_at_call 121; refine (Rn n _ h0 h1 ht).mono ?_; rintro e w' ⟨rfl,hb⟩)
 go_ret
 exact ⟨rfl,hb⟩
theorem NT (w:World):Lib.IsBuilder 150 5 w.heap.size w.heap.size [] (w.alloc (.cells #[.pointer none,.slice none 0 0] 150)) :=
 .inl ⟨Nat.le_refl _,.slice none 0 0,heap_alloc_new w _,World.ownsRow_nil _ _ _ _,by simp [Value.ownBlock]⟩
theorem MR (B b:Nat) (bs t:List UInt8) (w:World) (h:Lib.IsBuilder 150 5 B b (Lib.byteCells bs) w) (hlen:bs.length+t.length≤140737488355328) (hBw:B≤w.heap.size) :
  Calls Tryz.prog 120 #[.pointer (some ⟨b,0,none⟩),.string ⟨t.toArray⟩] w fun e w'=>∃ v,e = .returned v∧(Lib.BuilderAt 150 5 B b (.pointer (some ⟨b,0,none⟩)) (Lib.byteCells (bs++t)) w'∧Below B w w'):=by
 have e1:Lib.strCells ⟨t.toArray⟩=Lib.byteCells t:=rfl
 have e2:(⟨t.toArray⟩:ByteArray).size=t.length:=List.size_toArray
 generalize hS:(⟨t.toArray⟩:ByteArray)=S at *
 refine (VE B b (Lib.byteCells bs) S w h (by rw [Lib.byteCells_length,e2]; exact hlen) hBw).mono ?_
 rintro e w' ⟨he,h1,h2⟩
 rw [e1,← Lib.byteCells_append] at h1
 exact ⟨_,he,h1,h2⟩
theorem DQ {w w':World} {B ty s n:Nat} {v:Value} {xs:List Value} (h:w.ownsRow B ty s v n xs) (hb:Below w.heap.size w w'):w'.ownsRow B ty s v n xs:=by
 obtain ⟨h1,h2⟩:=h
 refine ⟨h1,?_⟩
 rcases h2 with h2 | ⟨g,cap,cur,k1,k2,k3,k4⟩
 ·exact .inl h2
 ·exact .inr ⟨g,cap,cur,k1,k2,(hb.block g (Array.getElem?_eq_some_iff.1 k3).1).trans k3,k4⟩
theorem oB {w w':World} {B b:Nat} {p:Value} {bs:List Value} (h:Lib.BuilderAt 150 5 B b p bs w) (hb:Below w.heap.size w w'):Lib.BuilderAt 150 5 B b p bs w':=by
 obtain ⟨h1,v,h2,h3,h4⟩:=h
 exact ⟨h1,v,(hb.block b (Array.getElem?_eq_some_iff.1 h2).1).trans h2,DQ h3 hb,h4⟩
theorem Fc {w w':World} {B b:Nat} {bs:List Value} (h:Lib.IsBuilder 150 5 B b bs w) (hb:Below w.heap.size w w'):Lib.IsBuilder 150 5 B b bs w':=h.imp (oB · hb) (oB · hb)
theorem F1 (l:List Int) {k:Nat} (hk:k<l.length):iM (l.take (k+1))=iM (l.take k)++(Lib.itoa (l.getD k 0)++[59]):=by
 rw [List.take_add_one,List.getElem?_eq_getElem hk]
 simp only [iM,List.flatMap_append,Option.toList_some,List.flatMap_cons,List.flatMap_nil,List.append_nil]
 simp [List.getD,hk]
theorem Tz (l:List Int) (k:Nat):(iM (l.take k)).length≤(iM l).length:=by
 have:l=l.take k++l.drop k:=(List.take_append_drop k l).symm
 have h2:iM l=iM (l.take k)++iM (l.drop k):=by
  conv=>lhs; rw [this]
  simp only [iM,List.flatMap_append]
 rw [h2]
 simp
set_option maxHeartbeats 4000000 in
set_option maxRecDepth 100000 in
theorem V3 (b o c:Nat) (l:List Int) (w:World) (hb:b<w.heap.size) (hc : ∀ j,j<l.length→w.cell? ⟨b,o+j,none⟩=some (.int .i64 (l.getD j 0))) (hall : ∀ x∈l,-9223372036854775808≤x∧x≤9223372036854775807) (hreach:l.length*8≤140737488351232) (hsize:(ml l).length≤140737488355328)
  (ht : ∀ b,qI=some b→∃ ty fr,w.heap[b]? = some (.cells mi ty fr)) (htl : ∀ b,qI=some b→b<w.heap.size) :
  Calls Tryz.prog 93 #[.slice (some ⟨b,o,none⟩) l.length c,.func (.func 94) #[] #[]] w fun e w'=>e = .returned (.string ⟨(ml l).toArray⟩)∧Below w.heap.size w w':=by
 have htk : ∀ w',Below w.heap.size w w'→∀ b,qI=some b→∃ ty fr,w'.heap[b]? = some (.cells mi ty fr):=fun w' hbw b hb=>by
  obtain ⟨ty,fr,h⟩:=ht b hb
  exact ⟨ty,fr,(hbw.block b (htl b hb)).trans h⟩
 have hn0 : -9223372036854775808≤(l.length:Int):=by omega
 have hn1:(l.length:Int)≤9223372036854775807:=by omega
 have hB0:Below w.heap.size w (w.alloc (.cells #[.pointer none,.slice none 0 0] 150)):=(Below.refl _ w).alloc (Nat.le_refl _) _
 have hsz:=vg l.length hn0 hn1
 have e1:B0 l.length++⟨#[91]⟩=⟨(Lib.itoa l.length++[91]).toArray⟩:=Ax (Lib.itoa l.length) [91]
 have hnl:(ml l).length=(Lib.itoa l.length).length+1+(iM l).length+1:=by simp [ml]; omega
 go_enter Tryz.func93,Tryz.ntmps93
 have hI0:Lib.IsBuilder 150 5 w.heap.size w.heap.size (Lib.byteCells []) (w.alloc (.cells #[.pointer none,.slice none 0 0] 150)):=NT w
 go_wp2_with (first
  | (go_at_call 121; refine (Rn l.length _ hn0 hn1 (htk _ hB0)).mono ?_; rintro e w1 ⟨rfl,hb1⟩; have hI1:=Fc hI0 hb1; have hz1:w.heap.size≤w1.heap.size:=Nat.le_trans hB0.size hb1.size)
  | (go_at_call 120; refine (MR w.heap.size w.heap.size [] (Lib.itoa l.length++[91]) _ hI1 (by simp only [List.length_nil,List.length_append,List.length_cons]; omega) hz1).mono ?_; rintro e w2 ⟨v2,rfl,hB2,hb2⟩))
 have hb20:Below w.heap.size w w2:=(hB0.trans (hb1.mono hB0.size)).trans hb2
 clear hI1 hI0 hB0 hb1 hb2
 go_loopw [15] (fun i wr=>∃ k:Nat,k≤l.length∧i = .int .i64 k∧Lib.BuilderAt 150 5 w.heap.size w.heap.size (.pointer (some ⟨w.heap.size,0,none⟩)) (Lib.byteCells ((Lib.itoa l.length++[91])++iM (l.take k))) wr∧Below w.heap.size w wr)
  (fun i _=>l.length - (intOf i).toNat)
 case atStart=>exact ⟨0,Nat.zero_le _,rfl,by simpa [iM] using hB2,hb20⟩
 case round =>
  obtain ⟨k,hk,rfl,hBk,hbk⟩:=hrel
  have hcx:k<l.length→wr.cell? ⟨b,o+k,none⟩=some (.int .i64 (l.getD k 0)):=fun h=>(hbk.cell (p:=⟨b,o+k,none⟩) hb).trans (hc k h)
  by_cases hlt:k<l.length
  ·have hcx':=hcx hlt
   have hx:=hall (l.getD k 0) (by rw [List.getD_eq_getElem?_getD,List.getElem?_eq_getElem hlt]; exact List.getElem_mem hlt)
   have hnk:=Tz l (k+1)
   rw [F1 l hlt,List.length_append] at hnk
   have hnn:=F1 l hlt
   generalize l.getD k 0=x at *
   go_wp2_with (first
    | (go_at_call 94; refine (T2 x _ hx.1 hx.2 (htk _ hbk)).mono ?_; rintro e w3 ⟨rfl,hb3⟩; have hI3:=oB hBk hb3; have hz3:w.heap.size≤w3.heap.size:=Nat.le_trans hbk.size hb3.size)
    | (go_at_call 120; refine (MR w.heap.size w.heap.size ((Lib.itoa l.length++[91])++iM (l.take k)) (Lib.itoa x++[59]) _ (.inr hI3) (by simp only [List.length_append,List.length_cons,List.length_nil] at *; omega) hz3).mono ?_; rintro e w4 ⟨v4,rfl,hB4,hb4⟩))
   go_roundw
   case rel=>exact ⟨k+1,by omega,by go_num,by rw [hnn,← List.append_assoc]; exact hB4,(hbk.trans (hb3.mono hbk.size)).trans hb4⟩
   case measure=>simp [intOf]; omega
  ·obtain rfl:k=l.length:=by omega
   have e3:(⟨((Lib.itoa l.length++[91])++iM l).toArray⟩:ByteArray)++⟨#[93]⟩=⟨(ml l).toArray⟩:=by
    rw [show (⟨#[93]⟩:ByteArray)=⟨([93]:List UInt8).toArray⟩ from rfl,Ax]
    simp [ml]
   have hss:(⟨((Lib.itoa l.length++[91])++iM l).toArray⟩:ByteArray).size+1≤9223372036854775807:=by
    show ((Lib.itoa l.length++[91])++iM l).toArray.size+1≤_
    rw [List.size_toArray]
    simp only [List.length_append,List.length_cons,List.length_nil]
    omega
   rw [List.take_length] at hBk
   have hstr:=Oz w.heap.size w.heap.size _ wr (.inr hBk) hbk.size
   generalize (⟨((Lib.itoa l.length++[91])++iM l).toArray⟩:ByteArray)=S at *
   go_wp2_with (go_at_call 122; refine hstr.mono ?_; rintro e w5 ⟨rfl,hb5⟩)
   go_ret
   first | exact ⟨rfl,hbk.trans hb5⟩ | exact ⟨by rw [← e3],hbk.trans hb5⟩
set_option maxHeartbeats 1000000 in
set_option maxRecDepth 100000 in
theorem V4 (A:Option Addr) (c:Nat) (w:World) (ht : ∀ b,qI=some b→∃ ty fr,w.heap[b]? = some (.cells mi ty fr)) (htl : ∀ b,qI=some b→b<w.heap.size) :
  Calls Tryz.prog 93 #[.slice A 0 c,.func (.func 94) #[] #[]] w fun e w'=>e = .returned (.string ⟨(ml []).toArray⟩)∧Below w.heap.size w w':=by
 have htk : ∀ w',Below w.heap.size w w'→∀ b,qI=some b→∃ ty fr,w'.heap[b]? = some (.cells mi ty fr):=fun w' hbw b hb=>by
  obtain ⟨ty,fr,h⟩:=ht b hb
  exact ⟨ty,fr,(hbw.block b (htl b hb)).trans h⟩
 have hB0:Below w.heap.size w (w.alloc (.cells #[.pointer none,.slice none 0 0] 150)):=(Below.refl _ w).alloc (Nat.le_refl _) _
 have hsz:=vg 0 (by decide) (by decide)
 have hll:=Lib.itoa_length_le 0 (by decide) (by decide)
 have e1:B0 0++⟨#[91]⟩=⟨(Lib.itoa 0++[91]).toArray⟩:=Ax (Lib.itoa 0) [91]
 go_enter Tryz.func93,Tryz.ntmps93
 have hI0:Lib.IsBuilder 150 5 w.heap.size w.heap.size (Lib.byteCells []) (w.alloc (.cells #[.pointer none,.slice none 0 0] 150)):=NT w
 go_wp2_with (first
  | (go_at_call 121; refine (Rn 0 _ (by decide) (by decide) (htk _ hB0)).mono ?_; rintro e w1 ⟨rfl,hb1⟩; have hI1:=Fc hI0 hb1; have hz1:w.heap.size≤w1.heap.size:=Nat.le_trans hB0.size hb1.size)
  | (go_at_call 120; refine (MR w.heap.size w.heap.size [] (Lib.itoa 0++[91]) _ hI1 (by simp only [List.length_nil,List.length_append,List.length_cons]; omega) hz1).mono ?_; rintro e w2 ⟨v2,rfl,hB2,hb2⟩))
 have hb20:Below w.heap.size w w2:=(hB0.trans (hb1.mono hB0.size)).trans hb2
 clear hI1 hI0 hB0 hb1 hb2
 go_loopw [15] (fun i wr=>i = .int .i64 0∧wr=w2) (fun i _=>0)
 case atStart=>exact ⟨rfl,rfl⟩
 case round =>
  obtain ⟨rfl,rfl⟩:=hrel
  have e3:(⟨(Lib.itoa 0++[91]).toArray⟩:ByteArray)++⟨#[93]⟩=⟨(ml []).toArray⟩:=by
   rw [show (⟨#[93]⟩:ByteArray)=⟨([93]:List UInt8).toArray⟩ from rfl,Ax]
   simp [ml,iM]
  have hss:(⟨(Lib.itoa 0++[91]).toArray⟩:ByteArray).size+1≤9223372036854775807:=by
   show (Lib.itoa 0++[91]).toArray.size+1≤_
   rw [List.size_toArray]
   simp only [List.length_append,List.length_cons,List.length_nil]
   omega
  have hstr:=Oz w.heap.size w.heap.size _ wr (.inr hB2) hb20.size
  rw [List.nil_append] at hstr
  generalize (⟨(Lib.itoa 0++[91]).toArray⟩:ByteArray)=S at *
  go_wp2_with (go_at_call 122; refine hstr.mono ?_; rintro e w5 ⟨rfl,hb5⟩)
  go_ret
  first | exact ⟨rfl,hb20.trans hb5⟩ | exact ⟨by rw [← e3],hb20.trans hb5⟩
theorem TA:bW Tryz.prog 53 (eZ (ef (ie (eI .i64))) N5 (fun r => .clean (.str r))) :=
 TR Tryz.func53 ⟨by kernel_rfl,by kernel_rfl⟩ fun l r hr w M u hu ht=>by
  unfold N5 at hr
  split at hr
  rotate_left
  ·cases hr
  rename_i hc
  cases hr
  have hu':RP w M (.sl false false l.length (ab (eI .i64) l)) u:=hu
  obtain ⟨A,c,rfl,-,-,-,k4⟩:=Gc hu'
  have hcall:Calls Tryz.prog 93 #[.slice A l.length c,.func (.func 94) #[] #[]] w fun e w'=>e = .returned (.string ⟨(ml l).toArray⟩)∧Below w.heap.size w w':=by
   by_cases hl:l=[]
   ·subst hl
    exact V4 A c w (fun b hb=>(ht b hb).is) (fun b hb=>(ht b hb).lt)
   ·obtain ⟨b,o,rfl,hb,hM,hcc⟩:=k4 hl
    exact V3 b o c l w hb hcc hc.1 hc.2.1 hc.2.2 (fun b hb=>(ht b hb).is) (fun b hb=>(ht b hb).lt)
  generalize (⟨(ml l).toArray⟩:ByteArray)=S at *
  go_enter Tryz.func53,Tryz.ntmps53
  go_wp2_with (go_at_call 93; refine hcall.mono ?_; rintro e w1 ⟨rfl,hb1⟩)
  go_ret
  exact ⟨rfl,hb1⟩
end Go.Proofs.YtpkahnkoecbndaaGreatDoor.Am
namespace Go.Proofs.YtpkahnkoecbndaaGreatDoor.Am
open Go.RowKit Go.Proofs.YtpkahnkoecbndaaGreatDoor.P
set_option linter.unusedSimpArgs false
set_option linter.unusedVariables false
set_option linter.unusedSectionVars false
noncomputable def pd {α β:Type} (E:jH α) (A:l9 β) (F:List α→β→Option α):List D→List D→Option (List D):=fun ds us =>
 open Classical in if h : ∃ p:List α×β,ab E p.1=ds∧A.ds p.2=us then (F (Classical.choose h).1 (Classical.choose h).2).map E.cells else none
theorem Rk {α β:Type} (E:jH α) (A:l9 β) (F:List α→β→Option α) (l:List α) (b:β):pd E A F (ab E l) (A.ds b)=(F l b).map E.cells:=by
 have h : ∃ p:List α×β,ab E p.1=ab E l∧A.ds p.2=A.ds b:=⟨(l,b),rfl,rfl⟩
 simp only [pd]
 rw [dif_pos h,rQ E _ _ (Classical.choose_spec h).1,A.inj _ _ (Classical.choose_spec h).2]
theorem qh {α β:Type} {E:jH α} {A:l9 β} {F:List α→β→Option α} {ds us cs:List D} (h:pd E A F ds us=some cs) : ∃ l b x,ds=ab E l∧us=A.ds b∧F l b=some x∧cs=E.cells x:=by
 unfold pd at h
 split at h
 ·rename_i he
  obtain ⟨h1,h2⟩:=Classical.choose_spec he
  rw [Option.map_eq_some_iff] at h
  obtain ⟨x,h3,h4⟩:=h
  exact ⟨_,_,x,h1.symm,h2.symm,h3,h4.symm⟩
 ·cases h
theorem I7 {α β:Type} (E:jH α) {A:l9 β} {F:List α→β→Option α} {B:Nat} {l z:List α} {b:β} (h:((F l b).bind fun x=>iO B l [x])=some z) :
  ∃ cs,pd E A F (ab E l) (A.ds b)=some cs∧ab E l++cs=ab E z∧l.length+1=z.length∧z.length*B≤140737488355328:=by
 obtain ⟨x,h1,h2⟩:=ae h
 obtain ⟨q1,q2,q3,q4⟩:=fS E h2
 exact ⟨E.cells x,by rw [Rk,h1]; rfl,q2,q1,q4⟩
section
variable {P:Program} {w:World}
theorem Gg (L:Nat→Prop) (w:World) (o:Obj):ck L w (w.alloc o):=⟨rfl,rfl,rfl,by simp,fun k hk _=>heap_alloc_old w o hk⟩
theorem C8 {L:Nat→Prop} {g:Nat} (hg:L g) (cs:Array Value):ck L w (w.setRow g cs):=⟨rfl,rfl,rfl,by simp [World.setRow],fun k _ hk=>by
 simp only [World.setRow,Array.getElem?_modify]
 rw [if_neg (fun h:g=k=>hk (h ▸ hg))]⟩
theorem DS (t ty el:Nat) {φ:Ty} (hd:P.underlying t=some (.slice el)) (hφ:dr P el φ) (hpos:0<φ.size) (hz0:φ.zero.length=φ.size) (hby:0<φ.bytes) {go:Option (Nat×Nat)} {u:Value} {n:Nat} {cs:List Value} (hs:xj w el φ.size go u n cs) (hcs:cs.length=n*φ.size)
  (b:Addr) (c:Nat) (us:List Value) (hul:us.length=φ.size) (hus : ∀ j u,us[j]? = some u→w.cell? (b.add j)=some u) (h1 : ∀ u∈us,u.oneCell'=true) (hb:(n+1)*φ.bytes≤140737488355328) :
  ∃ (g:Nat×Nat) (k:Nat) (arr:Array Value) (w':World),(Builtin.append_ #[t,t] ty #[u,.slice (some b) 1 c]).run P w = .ok (.slice (some ⟨g.1,g.2,none⟩) (n+1) k) w'∧ck (l8 go) w w'∧(w.heap.size≤g.1∨l8 go g.1)∧w'.heap[g.1]? = some (.cells arr el (0,0)) ∧
   n+1≤k∧k≤maxLen∧k*φ.size+g.2=arr.size∧∀ (j:Nat) x,(cs++us)[j]? = some x→arr[g.2+j]? = some x:=by
 have h63:n+1≤maxLen:=by
  have:=Nat.le_mul_of_pos_right (n+1) hby
  unfold maxLen
  omega
 have hul1:us.length=1*φ.size:=by omega
 have new : ∀ (A:Option Addr) (cap:Nat),u = .slice A n cap→cap<n+1→(A=none→n=0∧cap=0)→(∀ ad,A=some ad→∀ j u,cs[j]? = some u→w.cell? (ad.add j)=some u) →
   ∃ (g:Nat×Nat) (k:Nat) (arr:Array Value) (w':World),(Builtin.append_ #[t,t] ty #[u,.slice (some b) 1 c]).run P w = .ok (.slice (some ⟨g.1,g.2,none⟩) (n+1) k) w'∧ck (l8 go) w w'∧(w.heap.size≤g.1∨l8 go g.1)∧w'.heap[g.1]? = some (.cells arr el (0,0)) ∧
   n+1≤k∧k≤maxLen∧k*φ.size+g.2=arr.size∧∀ (j:Nat) x,(cs++us)[j]? = some x→arr[g.2+j]? = some x:=by
  intro A cap hu hcap hA hxs
  subst hu
  obtain ⟨k,vs,r1,r2,r3,r4,r5⟩:=sV (P:=P) (w:=w) t ty el hd hφ hpos hz0 A n cap cs hcs hxs hA b 1 c us hul1 hus (by omega) h63 hb
  refine ⟨(w.heap.size,0),k,vs,_,r1,⟨rfl,rfl,rfl,by simp,fun k hk _=>heap_alloc_old w.drew _ hk⟩,.inl (Nat.le_refl _),heap_alloc_new w.drew _,r2,r3,by omega,fun j x hj => ?_⟩
  rw [← r5] at hj
  rw [List.getElem?_take] at hj
  split at hj
  ·simpa using hj
  ·cases hj
 rcases hs with ⟨g,c0,arr,hgo,hu,hh,hsz,hn,hmx,hcell⟩ | ⟨hgo,rfl,rfl,A,hu⟩
 ·by_cases hroom:n+1≤c0
  ·subst hu
   have hfit:g.2+n*φ.size+us.length≤arr.size:=by
    have:=Nat.mul_le_mul_right φ.size hroom
    rw [Nat.add_mul] at this
    omega
   have hr:=uK (P:=P) (w:=w) t ty el hd hφ g.1 g.2 n c0 arr hh b 1 c us hul1 hus h1 hroom hfit
   refine ⟨g,c0,_,_,hr,C8 ⟨g,hgo,rfl⟩ _,.inr ⟨g,hgo,rfl⟩,setRow_heap w g.1 arr _ el (0,0) hh,hroom,hmx,?_,fun j x hj => ?_⟩
   ·simp only [List.size_toArray,List.length_append,List.length_take,List.length_drop,Array.length_toList]
    omega
   ·have hjl:=(List.getElem?_eq_some_iff.1 hj).1
    rw [List.length_append] at hjl
    simp only [List.getElem?_toArray]
    rw [List.append_assoc]
    by_cases hjn:j<cs.length
    ·rw [List.getElem?_append_left hjn] at hj
     have:=hcell j x hj
     rw [List.getElem?_append_left (by simp; omega),List.getElem?_take,if_pos (by omega)]
     simpa using this
    ·rw [List.getElem?_append_right (by omega)] at hj
     rw [List.getElem?_append_right (by simp; omega),List.getElem?_append_left (by simp; omega),← hj]
     congr 1
     simp
     omega
  ·exact new (some ⟨g.1,g.2,none⟩) c0 hu (by omega) (fun h=>by cases h) (fun ad had j u hj=>by
    cases had
    have:=hcell j u hj
    have hlt:=(Array.getElem?_eq_some_iff.1 this).1
    rw [lf,bC hh hlt,Array.getD_eq_getD_getElem?,this]
    rfl)
 ·exact new A 0 hu (by omega) (fun _=>⟨rfl,rfl⟩) (fun ad _ j u hj=>by simp at hj)
theorem CP {ops:Array Oper} {o:Oper} {a:Act} {K:Act→World→Prop} {Q:Exit→Act→World→Prop} {X:Prop} (hgd:o.guard=none) (s x:Operand) (t el:Nat)
  (ho:o.op = .call { callee := .builtin .append,args:=#[s,x],argTypes:=#[t,t] }) {φ:Ty} (hd:P.underlying t=some (.slice el)) (hφ:dr P el φ) (hpos:0<φ.size) (hz0:φ.zero.length=φ.size) (hby:0<φ.bytes)
  {go:Option (Nat×Nat)} {u:Value} {n:Nat} {cs:List Value} (hsv:a.eval s=u) (hs:xj w el φ.size go u n cs) (hcs:cs.length=n*φ.size)
  (b:Addr) (c:Nat) (us:List Value) (hx:a.eval x = .slice (some b) 1 c) (hul:us.length=φ.size) (hus : ∀ j u,us[j]? = some u→w.cell? (b.add j)=some u) (h1 : ∀ u∈us,u.oneCell'=true) (hb:(n+1)*φ.bytes≤140737488355328)
  (h : ∀ (g:Nat×Nat) (k:Nat) (arr:Array Value) (w':World),ck (l8 go) w w'→(w.heap.size≤g.1∨l8 go g.1)→w'.heap[g.1]? = some (.cells arr el (0,0)) →
   n+1≤k→k≤maxLen→k*φ.size+g.2=arr.size→(∀ (j:Nat) x,(cs++us)[j]? = some x→arr[g.2+j]? = some x)→K (a.put o.dst (.slice (some ⟨g.1,g.2,none⟩) (n+1) k)) w') :
  if Region.wanted o (yielded ops a.tmps)=true then Oper.wp P o a w K Q else X:=by
 have hw:Region.wanted o (yielded ops a.tmps)=true:=by simp [Region.wanted,hgd]
 rw [if_pos hw]
 obtain ⟨g,k,arr,w',hr,q1,q2,q3,q4,q5,q6,q7⟩:=DS (P:=P) t o.type el hd hφ hpos hz0 hby hs hcs b c us hul hus h1 hb
 unfold Oper.wp execOp
 simp only [ho,resolve,invoke,builtin,Sem.run_bind,Sem.run_pure,Result.andThen_ok,List.map_toArray,List.map_cons,List.map_nil,hsv,hx,hr]
 exact h g k arr w' q1 q2 q3 q4 q5 q6 q7
theorem xj.later {ty k:Nat} {go:Option (Nat×Nat)} {u:Value} {n:Nat} {cs:List Value} {w':World} (hs:xj w ty k go u n cs) (hb:ck (fun _=>False) w w'):xj w' ty k go u n cs:=by
 rcases hs with ⟨g,c0,arr,hgo,hu,hh,q⟩ | q
 ·exact .inl ⟨g,c0,arr,hgo,hu,(hb.block g.1 (Array.getElem?_eq_some_iff.1 hh).1 (fun h=>h)).trans hh,q⟩
 ·exact .inr q
end
def kq (gy:Nat×Nat) (ya:Array Value) (ty:Nat) (go:Option (Nat×Nat)) (n el size:Nat) (cs:List Value) (w:World) (e:Ending) (w':World):Prop :=
 e = .returned (.int .i64 (n:Int))∧ck (fun b=>b=gy.1∨l8 go b) w w' ∧
  ∃ (g:Nat×Nat) (c:Nat) (arr:Array Value),(w.heap.size≤g.1∨l8 go g.1)∧w'.heap[gy.1]? = some (.cells (ya.setIfInBounds gy.2 (.slice (some ⟨g.1,g.2,none⟩) (n+1) c)) ty (0,0))∧w'.heap[g.1]? = some (.cells arr el (0,0)) ∧
   n+1≤c∧c≤maxLen∧c*size+g.2=arr.size∧∀ (j:Nat) x,cs[j]? = some x→arr[g.2+j]? = some x
theorem Ay (w:World) (o o':Obj):ck (fun _=>False) w ((w.alloc o).alloc o').drew:=⟨rfl,rfl,rfl,by simp; omega,fun k hk _=>(heap_alloc_old (w.alloc o) o' (by simp; omega)).trans (heap_alloc_old w o hk)⟩
theorem kq.base {gy:Nat×Nat} {ya:Array Value} {ty:Nat} {go:Option (Nat×Nat)} {n el size:Nat} {cs:List Value} {w wA w':World} {e:Ending} (hA:ck (fun _=>False) w wA) (h:kq gy ya ty go n el size cs wA e w'):kq gy ya ty go n el size cs w e w':=by
 obtain ⟨h1,h2,g,c,arr,h3,h4⟩:=h
 exact ⟨h1,ck.trans (L:=fun b=>b=gy.1∨l8 go b) ⟨hA.os,hA.tape,hA.output,hA.size,fun k hk _=>hA.block k hk (fun h=>h)⟩ h2 (fun x hx _=>hx),g,c,arr,h3.imp (fun h=>Nat.le_trans hA.size h) (fun h=>h),h4⟩
theorem uL (w:World) (a:Addr) (u:Value) (k:Nat) (h:k≠a.block):(w.setCell a u).heap[k]? = w.heap[k]?:=by
 simp only [World.setCell,Array.getElem?_modify]
 rw [if_neg (Ne.symm h)]
theorem Pk {w wA w2:World} {gy g:Nat×Nat} {ya arr:Array Value} {ty el size n k:Nat} {go:Option (Nat×Nat)} {cs:List Value} (hy:w.heap[gy.1]? = some (.cells ya ty (0,0))) (hul:gy.2<ya.size) (hne : ∀ g,go=some g→g.1≠gy.1) (hA:ck (fun _=>False) w wA) (q1:ck (l8 go) wA w2)
  (q2:wA.heap.size≤g.1∨l8 go g.1) (q3:w2.heap[g.1]? = some (.cells arr el (0,0))) (q4:n+1≤k) (q5:k≤maxLen) (q6:k*size+g.2=arr.size) (q7 : ∀ (j:Nat) x,cs[j]? = some x→arr[g.2+j]? = some x) (hk0:w2.heap[gy.1]? = some (.cells ya ty (0,0))) :
  kq gy ya ty go n el size cs w (.returned (.int .i64 (n:Int))) (w2.setCell ⟨gy.1,gy.2,none⟩ (.slice (some ⟨g.1,g.2,none⟩) (n+1) k)):=by
 obtain ⟨hyl,-⟩:=Array.getElem?_eq_some_iff.1 hy
 have hgg:g.1≠gy.1:=by
  rcases q2 with q2 | ⟨g0,hg0,he⟩
  ·have:=hA.size; omega
  ·rw [he]; exact hne g0 hg0
 have hb:ck (fun b=>b=gy.1∨l8 go b) w w2:=ck.trans (L:=fun b=>b=gy.1∨l8 go b) (L':=l8 go) ⟨hA.os,hA.tape,hA.output,hA.size,fun k hk _=>hA.block k hk (fun h=>h)⟩ q1 (fun x hx _ => .inr hx)
 refine ⟨rfl,⟨hb.os,hb.tape,hb.output,by simpa [World.setCell] using hb.size,fun b hb1 hb2 => ?_⟩,g,k,arr,?_,?_,?_,q4,q5,q6,q7⟩
 ·rw [uL _ _ _ _ (fun h=>hb2 (.inl h))]
  exact hb.block b hb1 hb2
 ·exact q2.imp (fun h=>Nat.le_trans hA.size h) (fun h=>h)
 ·simp [World.setCell,Array.getElem?_modify,hk0]
 ·rw [uL _ _ _ _ hgg]; exact q3
set_option maxHeartbeats 2000000 in
set_option maxRecDepth 100000 in
theorem HJ (w:World) (gy:Nat×Nat) (ya:Array Value) (ty:Nat) (go:Option (Nat×Nat)) (u:Value) (n:Nat) (cs:List Value) (s:ByteArray) (v1 v2 v3 v4:Int) (hy:w.heap[gy.1]? = some (.cells ya ty (0,0))) (hu:ya[gy.2]? = some u)
  (hs:xj w 87 5 go u n cs) (hne : ∀ g,go=some g→g.1≠gy.1) (hcs:cs.length=n*5) (hb:(n+1)*48≤140737488355328) :
  Calls Tryz.prog 64 #[.pointer (some ⟨gy.1,gy.2,none⟩),.agg #[.string s,.int .i64 v1,.int .i64 v2,.int .i64 v3,.int .i64 v4]] w (kq gy ya ty go n 87 5 (cs++[.string s,.int .i64 v1,.int .i64 v2,.int .i64 v3,.int .i64 v4]) w):=by
 obtain ⟨hyl,-⟩:=Array.getElem?_eq_some_iff.1 hy
 obtain ⟨hul,hue⟩:=Array.getElem?_eq_some_iff.1 hu
 have hcell : ∀ w':World,w'.heap[gy.1]? = w.heap[gy.1]?→w'.cell? ⟨gy.1,gy.2,none⟩=some u∧w'.frozen? ⟨gy.1,gy.2,none⟩=false:=by
  intro w' h
  rw [hy] at h
  refine ⟨?_,?_⟩
  ·rw [bC h hul,Array.getD_eq_getD_getElem?,hu]; rfl
  ·simp [World.frozen?,h]
 go_enter Tryz.func64,Tryz.ntmps64
 go_wp2
 generalize hW:w.alloc (.cells #[.string s,.int .i64 v1,.int .i64 v2,.int .i64 v3,.int .i64 v4] 87)=W
 have hWs:W.heap.size=w.heap.size+1:=by rw [← hW]; simp
 have hWb:ck (fun _=>False) w W:=by rw [← hW]; exact Gg _ w _
 have hWn:W.heap[w.heap.size]? = some (.cells #[.string s,.int .i64 v1,.int .i64 v2,.int .i64 v3,.int .i64 v4] 87):=by rw [← hW]; exact heap_alloc_new w _
 have c0:W.drew.cell? ⟨gy.1,gy.2,none⟩=some u:=(hcell W.drew (hWb.block gy.1 hyl (fun h=>h))).1
 have c1 : ∀ o,(W.drew.alloc o).cell? ⟨gy.1,gy.2,none⟩=some u:=fun o=>(hcell (W.drew.alloc o) ((heap_alloc_old W.drew o (by show gy.1<W.heap.size; omega)).trans (hWb.block gy.1 hyl (fun h=>h)))).1
 have c2 : ∀ o,(W.alloc o).drew.cell? ⟨gy.1,gy.2,none⟩=some u:=c1
 have b0:W.drew.cell? ⟨w.heap.size,0,none⟩=some (.string s):=bC (w:=W.drew) hWn (by simp)
 have b1:W.drew.cell? ⟨w.heap.size,1,none⟩=some (.int .i64 v1):=bC (w:=W.drew) hWn (by simp)
 have b2:W.drew.cell? ⟨w.heap.size,2,none⟩=some (.int .i64 v2):=bC (w:=W.drew) hWn (by simp)
 have b3:W.drew.cell? ⟨w.heap.size,3,none⟩=some (.int .i64 v3):=bC (w:=W.drew) hWn (by simp)
 have b4:W.drew.cell? ⟨w.heap.size,4,none⟩=some (.int .i64 v4):=bC (w:=W.drew) hWn (by simp)
 generalize hO:Obj.cells #[.string s,.int .i64 v1,.int .i64 v2,.int .i64 v3,.int .i64 v4] 87=O at *
 have hbb:ck (fun _=>False) w (W.drew.alloc O):=hWb.trans (show ck (fun _=>False) W (W.drew.alloc O) from ⟨rfl,rfl,rfl,by simp,fun k hk _=>heap_alloc_old W.drew O hk⟩) (fun _ h _=>h)
 have hsA:=hs.later hbb
 have hnews : ∀ (j:Nat) x,([Value.string s,.int .i64 v1,.int .i64 v2,.int .i64 v3,.int .i64 v4]:List Value)[j]? = some x→(W.drew.alloc O).cell? ((⟨w.heap.size+1,0,none⟩:Addr).add j)=some x:=by
  intro j x hj
  have hn:(W.drew.alloc O).heap[w.heap.size+1]? = some (.cells #[.string s,.int .i64 v1,.int .i64 v2,.int .i64 v3,.int .i64 v4] 87):=by rw [hO,← hWs]; exact heap_alloc_new W.drew _
  have hlt:=(List.getElem?_eq_some_iff.1 hj).1
  rw [lf,Nat.zero_add,bC hn (by simpa using hlt),Array.getD_eq_getD_getElem?]
  simp only [List.getElem?_toArray,hj,Option.getD_some]
 have hones : ∀ x∈([Value.string s,.int .i64 v1,.int .i64 v2,.int .i64 v3,.int .i64 v4]:List Value),x.oneCell'=true:=by
  intro x hx
  simp only [List.mem_cons,List.not_mem_nil,or_false] at hx
  rcases hx with rfl | rfl | rfl | rfl | rfl <;> rfl
 subst hO
 have hnot : ¬ l8 go gy.1:=by rintro ⟨g,hg,he⟩; exact hne g hg he.symm
 go_region_law (refine CP rfl (.tmp 10) (.tmp 12) 22 87 rfl Tryz.underlying22 UI (by decide) rfl (by decide) rfl hsA hcs ⟨w.heap.size+1,0,none⟩ 1 _ rfl rfl hnews hones hb ?_; intro g k arr w2 q1 q2 q3 q4 q5 q6 q7; have hk0:w2.heap[gy.1]? = some (.cells ya ty (0,0)):=(q1.block gy.1 (Nat.lt_of_lt_of_le hyl hbb.size) hnot).trans ((hbb.block gy.1 hyl (fun h=>h)).trans hy); obtain ⟨d0,d1⟩:=hcell w2 (hk0.trans hy.symm))
 all_goals go_wp2
 all_goals go_ret
 all_goals exact Pk hy hul hne hbb q1 q2 q3 q4 q5 q6 q7 hk0
set_option maxHeartbeats 4000000 in
set_option maxRecDepth 100000 in
theorem PL (w:World) (gy:Nat×Nat) (ya:Array Value) (ty:Nat) (go:Option (Nat×Nat)) (u:Value) (n:Nat) (cs:List Value) (i j:Nat) (s1 s2:ByteArray) (v1 v2 v3 v4 u1 u2 u3 u4:Int) (hy:w.heap[gy.1]? = some (.cells ya ty (0,0))) (hu:ya[gy.2]? = some u)
  (hs:xj w 87 5 go u n cs) (hne : ∀ g,go=some g→g.1≠gy.1) (hcs:cs.length=n*5) (hb:(n+1)*48≤140737488355328) (hi:i<n) (hj:j<n)
  (hx : ∀ q x,[Value.string s1,.int .i64 v1,.int .i64 v2,.int .i64 v3,.int .i64 v4][q]? = some x→cs[i*5+q]? = some x) (hz : ∀ q x,[Value.string s2,.int .i64 u1,.int .i64 u2,.int .i64 u3,.int .i64 u4][q]? = some x→cs[j*5+q]? = some x) :
  Calls Tryz.prog 66 #[.pointer (some ⟨gy.1,gy.2,none⟩),.int .i64 (i:Int),.int .i64 (j:Int)] w (kq gy ya ty go n 87 5 (cs++[.string ⟨#[]⟩,.int .i64 (IntKind.i64.wrap (v1+u1)),.int .i64 (IntKind.i64.wrap (v2+u2)),.int .i64 (i:Int),.int .i64 (j:Int)]) w):=by
 obtain ⟨hyl,-⟩:=Array.getElem?_eq_some_iff.1 hy
 obtain ⟨hul,hue⟩:=Array.getElem?_eq_some_iff.1 hu
 rcases hs with ⟨g,c,arr,hgo,rfl,hh,hsz,hn,hmx,hcell⟩ | ⟨-,hn,-⟩
 rotate_left
 ·omega
 obtain ⟨hgl,-⟩:=Array.getElem?_eq_some_iff.1 hh
 have ecel : ∀ w':World,(∀ k,k<w.heap.size→w'.heap[k]? = w.heap[k]?)→w'.cell? ⟨gy.1,gy.2,none⟩=some (.slice (some ⟨g.1,g.2,none⟩) n c):=by
  intro w' hw
  rw [bC ((hw _ hyl).trans hy) hul,Array.getD_eq_getD_getElem?,hu]; rfl
 have cel : ∀ w':World,(∀ k,k<w.heap.size→w'.heap[k]? = w.heap[k]?)→∀ (k:Nat) x,cs[k]? = some x→w'.cell? ⟨g.1,g.2+k,none⟩=some x:=by
  intro w' hw k x hk
  have:=hcell k x hk
  have hlt:=(Array.getElem?_eq_some_iff.1 this).1
  rw [bC ((hw _ hgl).trans hh) hlt,Array.getD_eq_getD_getElem?,this]; rfl
 have w1 : ∀ o k,k<w.heap.size→(w.alloc o).heap[k]? = w.heap[k]?:=fun o k hk=>heap_alloc_old w o hk
 have w2 : ∀ o o' k,k<w.heap.size→((w.alloc o).alloc o').heap[k]? = w.heap[k]?:=fun o o' k hk=>(heap_alloc_old (w.alloc o) o' (by simp; omega)).trans (heap_alloc_old w o hk)
 have e0:=ecel w (fun _ _=>rfl)
 have e1:=fun o=>ecel (w.alloc o) (w1 o)
 have e2:=fun o o'=>ecel ((w.alloc o).alloc o') (w2 o o')
 have a0 : ∀ w':World,(∀ k,k<w.heap.size→w'.heap[k]? = w.heap[k]?)→w'.cell? ⟨g.1,g.2+i*5,none⟩=some (.string s1):=fun w' hw=>cel w' hw (i*5+0) _ (hx 0 _ rfl)
 have a0x:=a0 w (fun _ _=>rfl)
 have a0y:=fun o=>a0 (w.alloc o) (w1 o)
 have a0z:=fun o o'=>a0 ((w.alloc o).alloc o') (w2 o o')
 clear a0
 have a1 : ∀ w':World,(∀ k,k<w.heap.size→w'.heap[k]? = w.heap[k]?)→w'.cell? ⟨g.1,g.2+i*5+1,none⟩=some (.int .i64 v1):=fun w' hw=>cel w' hw (i*5+1) _ (hx 1 _ rfl)
 have a1x:=a1 w (fun _ _=>rfl)
 have a1y:=fun o=>a1 (w.alloc o) (w1 o)
 have a1z:=fun o o'=>a1 ((w.alloc o).alloc o') (w2 o o')
 clear a1
 have a2 : ∀ w':World,(∀ k,k<w.heap.size→w'.heap[k]? = w.heap[k]?)→w'.cell? ⟨g.1,g.2+i*5+2,none⟩=some (.int .i64 v2):=fun w' hw=>cel w' hw (i*5+2) _ (hx 2 _ rfl)
 have a2x:=a2 w (fun _ _=>rfl)
 have a2y:=fun o=>a2 (w.alloc o) (w1 o)
 have a2z:=fun o o'=>a2 ((w.alloc o).alloc o') (w2 o o')
 clear a2
 have a3 : ∀ w':World,(∀ k,k<w.heap.size→w'.heap[k]? = w.heap[k]?)→w'.cell? ⟨g.1,g.2+i*5+3,none⟩=some (.int .i64 v3):=fun w' hw=>cel w' hw (i*5+3) _ (hx 3 _ rfl)
 have a3x:=a3 w (fun _ _=>rfl)
 have a3y:=fun o=>a3 (w.alloc o) (w1 o)
 have a3z:=fun o o'=>a3 ((w.alloc o).alloc o') (w2 o o')
 clear a3
 have a4 : ∀ w':World,(∀ k,k<w.heap.size→w'.heap[k]? = w.heap[k]?)→w'.cell? ⟨g.1,g.2+i*5+4,none⟩=some (.int .i64 v4):=fun w' hw=>cel w' hw (i*5+4) _ (hx 4 _ rfl)
 have a4x:=a4 w (fun _ _=>rfl)
 have a4y:=fun o=>a4 (w.alloc o) (w1 o)
 have a4z:=fun o o'=>a4 ((w.alloc o).alloc o') (w2 o o')
 clear a4
 have b0 : ∀ w':World,(∀ k,k<w.heap.size→w'.heap[k]? = w.heap[k]?)→w'.cell? ⟨g.1,g.2+j*5,none⟩=some (.string s2):=fun w' hw=>cel w' hw (j*5+0) _ (hz 0 _ rfl)
 have b0x:=b0 w (fun _ _=>rfl)
 have b0y:=fun o=>b0 (w.alloc o) (w1 o)
 have b0z:=fun o o'=>b0 ((w.alloc o).alloc o') (w2 o o')
 clear b0
 have b1 : ∀ w':World,(∀ k,k<w.heap.size→w'.heap[k]? = w.heap[k]?)→w'.cell? ⟨g.1,g.2+j*5+1,none⟩=some (.int .i64 u1):=fun w' hw=>cel w' hw (j*5+1) _ (hz 1 _ rfl)
 have b1x:=b1 w (fun _ _=>rfl)
 have b1y:=fun o=>b1 (w.alloc o) (w1 o)
 have b1z:=fun o o'=>b1 ((w.alloc o).alloc o') (w2 o o')
 clear b1
 have b2 : ∀ w':World,(∀ k,k<w.heap.size→w'.heap[k]? = w.heap[k]?)→w'.cell? ⟨g.1,g.2+j*5+2,none⟩=some (.int .i64 u2):=fun w' hw=>cel w' hw (j*5+2) _ (hz 2 _ rfl)
 have b2x:=b2 w (fun _ _=>rfl)
 have b2y:=fun o=>b2 (w.alloc o) (w1 o)
 have b2z:=fun o o'=>b2 ((w.alloc o).alloc o') (w2 o o')
 clear b2
 have b3 : ∀ w':World,(∀ k,k<w.heap.size→w'.heap[k]? = w.heap[k]?)→w'.cell? ⟨g.1,g.2+j*5+3,none⟩=some (.int .i64 u3):=fun w' hw=>cel w' hw (j*5+3) _ (hz 3 _ rfl)
 have b3x:=b3 w (fun _ _=>rfl)
 have b3y:=fun o=>b3 (w.alloc o) (w1 o)
 have b3z:=fun o o'=>b3 ((w.alloc o).alloc o') (w2 o o')
 clear b3
 have b4 : ∀ w':World,(∀ k,k<w.heap.size→w'.heap[k]? = w.heap[k]?)→w'.cell? ⟨g.1,g.2+j*5+4,none⟩=some (.int .i64 u4):=fun w' hw=>cel w' hw (j*5+4) _ (hz 4 _ rfl)
 have b4x:=b4 w (fun _ _=>rfl)
 have b4y:=fun o=>b4 (w.alloc o) (w1 o)
 have b4z:=fun o o'=>b4 ((w.alloc o).alloc o') (w2 o o')
 clear b4
 clear hx hz ecel cel w1
 have w3 : ∀ o o' k,k<w.heap.size→((w.alloc o).alloc o').drew.heap[k]? = w.heap[k]?:=w2
 have hi1:(0:Int)≤(i:Int):=by omega
 have hi2:(i:Int)<(n:Int):=by omega
 have hj1:(0:Int)≤(j:Int):=by omega
 have hj2:(j:Int)<(n:Int):=by omega
 go_enter Tryz.func66,Tryz.ntmps66
 go_wp2
 go_region
 all_goals (go_wp2_with (go_at_call 64; refine (HJ _ gy ya ty go _ n cs _ _ _ _ _ ((w3 _ _ _ hyl).trans hy) hu (xj.later (.inl ⟨g,c,arr,hgo,rfl,hh,hsz,hn,hmx,hcell⟩) (Ay w _ _)) hne hcs hb).mono ?_; rintro e w' hp; obtain ⟨rfl,hp2⟩:=kq.base (Ay w _ _) hp))
 all_goals go_ret
 all_goals (simp only [← IntWalk.i64_left] at hp2; exact ⟨rfl,hp2.1,hp2.2⟩)
section
variable {α:Type} (E:jH α) (mk:ByteArray→Int→Int→Int→Int→α) (hmk : ∀ s a b c d,E.cells (mk s a b c d)=[.str s,.int .i64 a,.int .i64 b,.int .i64 c,.int .i64 d]) (hall : ∀ x,∃ s a b c d,x=mk s a b c d)
include hmk hall
theorem qK:E.size=5:=by
 rw [← E.len (mk ⟨#[]⟩ 0 0 0 0),hmk]; rfl
theorem qJ (x:α) : ∀ d∈E.cells x,um d=true:=by
 obtain ⟨s,a,b,c,d,rfl⟩:=hall x
 rw [hmk]
 intro y hy
 simp only [List.mem_cons,List.not_mem_nil,or_false] at hy
 rcases hy with rfl | rfl | rfl | rfl | rfl <;> rfl
theorem zj (l:List α) : ∀ d∈ab E l,um d=true:=by
 induction l with
 | nil=>intro d hd; cases hd
 | cons x l ih =>
  intro d hd
  rcases List.mem_append.1 hd with h | h
  ·exact qJ E mk hmk hall x d h
  ·exact ih d h
theorem UP:Ak Tryz.prog 64 ⟨87,5,48,pd E (ef (dO E)) K8⟩ where
 callable:=⟨_,Tryz.func64,by kernel_rfl,by kernel_rfl⟩
 pos:=Nat.zero_lt_succ 4
 flat ds us cs h:=by
  obtain ⟨l,b,x,rfl,rfl,hx,rfl⟩:=qh (show pd E (ef (dO E)) K8 ds us=some cs from h)
  refine ⟨zj E mk hmk hall l,fun d hd => ?_,qJ E mk hmk hall x,by rw [E.len]; exact qK E mk hmk hall⟩
  simp only [ef,List.mem_cons,List.not_mem_nil,or_false] at hd
  subst hd
  exact List.all_eq_true.2 (qJ E mk hmk hall b)
 calls w gy ya ty go u n ds us cs hy hu hs hne hlen hsem hb:=by
  obtain ⟨l,b,x,rfl,rfl,hx,rfl⟩:=qh (show pd E (ef (dO E)) K8 ds us=some cs from hsem)
  obtain rfl:b=x:=by simpa [K8] using hx
  obtain ⟨s,v1,v2,v3,v4,rfl⟩:=hall b
  have h:=HJ w gy ya ty go u n _ s v1 v2 v3 v4 hy hu hs hne (by simpa using hlen) hb
  have e1:(ef (dO E)).ds (mk s v1 v2 v3 v4)=[.agg [.str s,.int .i64 v1,.int .i64 v2,.int .i64 v3,.int .i64 v4]]:=by
   simp only [ef,UO,hmk]
  rw [e1,hmk]
  refine h.mono fun e w' hp => ?_
  simpa [kq,zR] using hp
end
section
variable {α:Type} (E:jH α) (mk:ByteArray→Int→Int→Int→Int→α) (hmk : ∀ s a b c d,E.cells (mk s a b c d)=[.str s,.int .i64 a,.int .i64 b,.int .i64 c,.int .i64 d]) (hall : ∀ x,∃ s a b c d,x=mk s a b c d) (val bl:α→Int) (hval : ∀ s a b c d,val (mk s a b c d)=a) (hbl : ∀ s a b c d,bl (mk s a b c d)=b)
include hmk hall hval hbl
theorem CS {l:List α} {i:Int} {s:ByteArray} {v1 v2 v3 v4:Int} (h:P.idx l i=some (mk s v1 v2 v3 v4)):0≤i∧i<l.length∧∀ q x,[Value.string s,.int .i64 v1,.int .i64 v2,.int .i64 v3,.int .i64 v4][q]? = some x→((ab E l).map zR)[i.toNat*5+q]? = some x:=by
 have hb:=aJ h
 have ha:=aC E h
 rw [qK E mk hmk hall,hmk] at ha
 refine ⟨hb.1,hb.2,fun q x hx => ?_⟩
 have hq:=(List.getElem?_eq_some_iff.1 hx).1
 simp only [List.length_cons,List.length_nil] at hq
 have h1:((ab E l).drop (i.toNat*5))[q]? = [D.str s,.int .i64 v1,.int .i64 v2,.int .i64 v3,.int .i64 v4][q]?:=by
  rw [ha,List.getElem?_append_left (by simpa using hq)]
 rw [List.getElem?_drop] at h1
 rw [List.getElem?_map,h1,← List.getElem?_map]
 exact hx
theorem TH:Ak Tryz.prog 66 ⟨87,5,48,pd E (eg (aI .i64) (ef (aI .i64))) (Cm mk val bl)⟩ where
 callable:=⟨_,Tryz.func66,by kernel_rfl,by kernel_rfl⟩
 pos:=Nat.zero_lt_succ 4
 flat ds us cs h:=by
  obtain ⟨l,b,x,rfl,rfl,hx,rfl⟩:=qh (show pd E (eg (aI .i64) (ef (aI .i64))) (Cm mk val bl) ds us=some cs from h)
  refine ⟨zj E mk hmk hall l,fun d hd => ?_,qJ E mk hmk hall x,by rw [E.len]; exact qK E mk hmk hall⟩
  simp only [ef,eg,Xj,List.mem_cons,List.not_mem_nil,or_false] at hd
  rcases hd with rfl | rfl <;> rfl
 calls w gy ya ty go u n ds us cs hy hu hs hne hlen hsem hb:=by
  obtain ⟨l,⟨i,j⟩,z,rfl,rfl,hz,rfl⟩:=qh (show pd E (eg (aI .i64) (ef (aI .i64))) (Cm mk val bl) ds us=some cs from hsem)
  unfold Cm at hz
  obtain ⟨x,hx,hz⟩:=ae hz
  obtain ⟨y,hy1,hz⟩:=ae hz
  simp only [Option.some.injEq] at hz
  subst hz
  obtain ⟨s,v1,v2,v3,v4,rfl⟩:=hall x
  obtain ⟨s2,u1,u2,u3,u4,rfl⟩:=hall y
  obtain ⟨i1,i2,i3⟩:=CS E mk hmk hall val bl hval hbl hx
  obtain ⟨j1,j2,j3⟩:=CS E mk hmk hall val bl hval hbl hy1
  have hn:l.length=n:=by
   rw [cW,qK E mk hmk hall] at hlen
   exact Nat.eq_of_mul_eq_mul_right (by decide) hlen
  have h:=PL w gy ya ty go u n _ i.toNat j.toNat s s2 v1 v2 v3 v4 u1 u2 u3 u4 hy hu hs hne (by simpa using hlen) hb (by omega) (by omega) i3 j3
  have ei:((i.toNat:Nat):Int)=i:=by omega
  have ej:((j.toNat:Nat):Int)=j:=by omega
  rw [ei,ej] at h
  rw [hmk,hval,hval,hbl,hbl]
  refine h.mono fun e w' hp => ?_
  simpa [kq,zR] using hp
end
end Go.Proofs.YtpkahnkoecbndaaGreatDoor.Am
namespace Go.Proofs.YtpkahnkoecbndaaGreatDoor.Am
open Go.RowKit Go.Proofs.YtpkahnkoecbndaaGreatDoor.P
set_option linter.unusedSimpArgs false
set_option linter.unusedVariables false
set_option maxRecDepth 100000
noncomputable def Js:List (String×DataW Unit):=[("math/bits.deBruijn32tab",Rows.laid_math_bits_deBruijn32tab),("math/bits.deBruijn64tab",Rows.laid_math_bits_deBruijn64tab),("internal/strconv.uint64pow10",Rows.laid_internal_strconv_uint64pow10)]
theorem Q0 (os:Os) (args:Array Value):laidMetH Tryz.prog Js ((World.doorLaid Tryz.prog 400 os).forCall (fun _ _=>0) ⟨#[],args,[]⟩).memory :=
 laidMetH_of_parts3 (fuel:=8) (laidMet_of_run' 8 (by kernel_rfl) (by kernel_rfl)) (by kernel_rfl) (by kernel_rfl)
theorem Tt:Rows.laid_internal_strconv_uint64pow10 (H:=Unit)=Lib.tabData .u64 Lib.pow10Tab:=by
 simp [Rows.laid_internal_strconv_uint64pow10,Lib.tabData,Lib.pow10Tab,List.range,List.range.loop]
theorem Ro {w:World} (h:laidMetH Tryz.prog Js w):Gd w (fun _=>False):=fun b hb=>by
 rw [MakeChecks.laidMetH_plain _ _ _ (by kernel_rfl)] at h
 have h3:laidMet Tryz.prog [("internal/strconv.uint64pow10",Rows.laid_internal_strconv_uint64pow10)] w:=h.tail.tail
 rw [Tt] at h3
 have ht:Lib.TabIs Tryz.prog w "internal/strconv.uint64pow10" .u64 Lib.pow10Tab:=Lib.tabIs_of_head (g:=0) (t:=204) (e:=178) (n:=20) (by kernel_rfl) (by kernel_rfl) (by kernel_rfl) (by kernel_rfl) (by kernel_rfl) (by kernel_rfl) h3
 cases hb
 have hg:Tryz.prog.globalNamed "internal/strconv.uint64pow10" = some 0:=by kernel_rfl
 simp only [Lib.TabIs,World.var?,hg,Option.bind_some] at ht
 have hc : ∃ ty fr,w.heap[0]? = some (.cells mi ty fr):=by
  split at ht
  ·rename_i cs ty fr hcs
   refine ⟨ty,fr,?_⟩
   rw [hcs]
   have e:cs=mi:=by
    have:=Option.some.inj ht
    rw [this]
    simp [Lib.pow10Tab,mi]
   rw [e]
  ·cases ht
 obtain ⟨ty,fr,hc⟩:=hc
 exact ⟨(Array.getElem?_eq_some_iff.1 hc).1,fun h=>h,ty,fr,hc⟩
end Go.Proofs.YtpkahnkoecbndaaGreatDoor.Am
namespace Go.Proofs.YtpkahnkoecbndaaGreatDoor.P
open Go.RowKit
set_option linter.unusedVariables false
structure aw where
 ag:Int
 aa:(List Int)
structure aY where
 cr:aw
 cq:aw
structure dL where
 bx:aY
 aT:aY
structure az where
 bn:Int
 bD:dL
structure MY where
 z7:(List ByteArray)
 wh:(List Int)
 wg:(List Int)
structure aG where
 bn:Int
 eG:(List Int)
 cR:ByteArray
 bd:Int
 bz:Int
structure bB where
 bn:Int
 ky:Int
structure ax where
 cR:ByteArray
 bd:Int
 bz:Int
 dp:Int
 cK:Int
structure aE where
 ah:(List ax)
structure jQ where
 Tq:aE
 xt:Int
 tz:Int
 tx:Int
structure vG where
 z8:aE
def VQ:ByteArray:=ByteArray.mk #[0,1,2,2,3,3,3,3,4,4,4,4,4,4,4,4,5,5,5,5,5,5,5,5,5,5,5,5,5,5,5,5,6,6,6,6,6,6,6,6,6,6,6,6,6,6,6,6,6,6,6,6,6,6,6,6,6,6,6,6,6,6,6,6,7,7,7,7,7,7,7,7,7,7,7,7,7,7,7,7,7,7,7,7,7,7,7,7,7,7,7,7,7,7,7,7,7,7,7,7,7,7,7,7,7,7,7,7,7,7,7,7,7,7,7,7,7,7,7,7,7,7,7,7,7,7,7,7,8,8,8,8,8,8,8,8,8,8,8,8,8,8,8,8,8,8,8,8,8,8,8,8,8,8,8,8,8,8,8,8,8,8,8,8,8,8,8,8,8,8,8,8,8,8,8,8,8,8,8,8,8,8,8,8,8,8,8,8,8,8,8,8,8,8,8,8,8,8,8,8,8,8,8,8,8,8,8,8,8,8,8,8,8,8,8,8,8,8,8,8,8,8,8,8,8,8,8,8,8,8,8,8,8,8,8,8,8,8,8,8,8,8,8,8,8,8,8,8,8,8,8,8,8,8,8,8]
def dZ (p0:Int) (p1:Int):Option (Bool) :=
 if decide (p0≥0) then
  some (decide (p0≤p1))
 else
  some false
def jh (p0:ax):Option (Bool) :=
 (if (p0.dp==(-1)) then
  some (p0.cK==(-1))
 else
  some false).bind fun s3j1 =>
 if s3j1 then
  if decide ((p0.cR.size:Int)≤8000) then
   (dZ p0.bd 1099511627776).bind fun r4 =>
   if r4 then
    (dZ p0.bz 1099511627776).bind fun r6 =>
    some r6
   else
    some false
  else
   some false
 else
  some false
def jW (p0:(List ax)) (p1:Int) (p2:Int):Option (ax×Int) :=
 (dZ p1 (IntKind.i64.wrap ((p0.length:Int) - 1))).bind fun r1 =>
 (if (!r1) then
  some true
 else
  (dZ p2 (IntKind.i64.wrap ((p0.length:Int) - 1))).bind fun r9 =>
  some (!r9)).bind fun s24j1 =>
 if s24j1 then
  some ((ax.mk (ByteArray.mk #[]) 0 0 0 0),4)
 else
  (P.idx p0 p1).bind fun x4 =>
  (P.idx p0 p2).bind fun x5 =>
  if decide ((IntKind.i64.wrap (x4.bd+x5.bd)) > 1125899906842624) then
   some ((ax.mk (ByteArray.mk #[]) 0 0 0 0),3)
  else
   if decide ((IntKind.i64.wrap (x4.bz+x5.bz)) > 1125899906842624) then
    some ((ax.mk (ByteArray.mk #[]) 0 0 0 0),3)
   else
    some ((ax.mk (ByteArray.mk #[]) (IntKind.i64.wrap (x4.bd+x5.bd)) (IntKind.i64.wrap (x4.bz+x5.bz)) p1 p2),0)
def kR (p0:aE):(Int)→Option ((Int)⊕((Unit)⊕(Bool)))
 | s14a =>
  if decide (s14a<(p0.ah.length:Int)) then
   (P.idx p0.ah s14a).bind fun x13 =>
   (jh x13).bind fun r14 =>
   if r14 then
    some (.inl (IntKind.i64.wrap (s14a+1)))
   else
    (CN p0.ah 0 s14a).bind fun x16 =>
    (jW x16 x13.dp x13.cK).bind fun r18 =>
    if (r18.2 != 0) then
     some (.inr (.inr false))
    else
     if (!((x13.cR==r18.1.cR)&&((x13.bd==r18.1.bd)&&((x13.bz==r18.1.bz)&&((x13.dp==r18.1.dp)&&(x13.cK==r18.1.cK)))))) then
      some (.inr (.inr false))
     else
      some (.inl (IntKind.i64.wrap (s14a+1)))
  else
   some (.inr (.inl ()))
def dI (p0:aE):Option (Bool) :=
 if decide ((p0.ah.length:Int) > 2000) then
  some false
 else
  (a8 (kR p0) 0).bind fun q=>match q with
  | (.inl _) =>
   some true
  | (.inr ra) =>
   some ra
def mY (p0:ByteArray) (p1:Int) (p2:Int):Option (ax) :=
 some (ax.mk p0 p1 p2 (-1) (-1))
def dY (p0:(List ax)):Option (List ax):=iO 48 [] p0
def pt (l:List ax) (p1:ax):Option (List ax):=(K8 l p1).bind fun x=>iO 48 l [x]
def bA (p0:(List Int)):Option (List Int):=iO 8 [] p0
def oz (l:List ax) (p1:Int) (p2:Int):Option (List ax):=((Cm ax.mk (fun x=>x.bd) (fun x=>x.bz)) l (p1,p2)).bind fun x=>iO 48 l [x]
def uQ (p1:(List ByteArray)) (p2:(List Int)) (p3:(List Int)):(Int)→Option ((Int)⊕((Unit)⊕(aE×Int×(List Int)×Int)))
 | s43b =>
  if decide (s43b<(p1.length:Int)) then
   (P.idx p1 s43b).bind fun x14 =>
   (P.idx p2 s43b).bind fun x15 =>
   (P.idx p3 s43b).bind fun x16 =>
   (mY x14 x15 x16).bind fun r17 =>
   (dI (aE.mk ([r17]))).bind fun r19 =>
   if (!r19) then
    some (.inr (.inr ((aE.mk ([])),(-1),[],1)))
   else
    some (.inl (IntKind.i64.wrap (s43b+1)))
  else
   some (.inr (.inl ()))
def uR (p1:(List ByteArray)) (p2:(List Int)) (p3:(List Int)):(Int×(List Int)×(List ax))→Option ((Int×(List Int)×(List ax))⊕(((List Int)×(List ax))))
 | (s85d,l10d,l1000014d) =>
  if decide (s85d<(p1.length:Int)) then
   (P.idx p1 s85d).bind fun x35 =>
   (P.idx p2 s85d).bind fun x36 =>
   (P.idx p3 s85d).bind fun x37 =>
   (mY x35 x36 x37).bind fun r38 =>
   (pt l1000014d r38).bind fun x39 =>
   (iO 8 l10d [(l1000014d.length:Int)]).bind fun x41 =>
   some (.inl (IntKind.i64.wrap (s85d+1),x41,x39))
  else
   some (.inr (l10d,l1000014d))
def uT (l16e:(List Int)):(Int×(List Int)×(List ax))→Option ((Int×(List Int)×(List ax))⊕(((List Int)×(List ax))))
 | (s18g,l17g,l1000014g) =>
  if decide ((IntKind.i64.wrap (s18g+1))<((l16e).length:Int)) then
   (P.idx l16e s18g).bind fun x77 =>
   (P.idx l16e (IntKind.i64.wrap (s18g+1))).bind fun x78 =>
   (oz l1000014g x77 x78).bind fun x79 =>
   (iO 8 l17g [(l1000014g.length:Int)]).bind fun x81 =>
   some (.inl (IntKind.i64.wrap (s18g+2),x81,x79))
  else
   some (.inr (l17g,l1000014g))
def uS:((List Int)×(List ax))→Option (((List Int)×(List ax))⊕(((List Int)×(List ax))))
 | (l16e,l1000014e) =>
  if decide (((l16e).length:Int) > 1) then
   (a8 (uT l16e) (0,[],l1000014e)).bind fun q=>match q with
   | (l17gx,l1000014gx) =>
    (vn .i64 ((l16e).length:Int) 2).bind fun x83 =>
    if (x83==1) then
     (P.idx l16e (IntKind.i64.wrap (((l16e).length:Int) - 1))).bind fun x86 =>
     (iO 8 l17gx [x86]).bind fun x87 =>
     some (.inl (x87,l1000014gx))
    else
     some (.inl (l17gx,l1000014gx))
  else
   some (.inr (l16e,l1000014e))
def lz (p0:aE) (p1:(List ByteArray)) (p2:(List Int)) (p3:(List Int)):Option (aE×Int×(List Int)×Int) :=
 (dI p0).bind fun r1 =>
 (if (!r1) then
  some true
 else
  if ((p1.length:Int)==0) then
   some true
  else
   if ((p2.length:Int) != (p1.length:Int)) then
    some true
   else
    some ((p3.length:Int) != (p1.length:Int))).bind fun s39j1 =>
 if s39j1 then
  some ((aE.mk ([])),(-1),[],1)
 else
  (a8 (uQ p1 p2 p3) 0).bind fun q=>match q with
  | (.inl _) =>
   (if decide ((p1.length:Int) > 64) then
    some true
   else
    some (decide ((IntKind.i64.wrap ((IntKind.i64.wrap ((p0.ah.length:Int)+(IntKind.i64.wrap (2*(p1.length:Int))))) - 1)) > 2000))).bind fun s76j3 =>
   if s76j3 then
    some ((aE.mk ([])),(-1),[],6)
   else
    (dY p0.ah).bind fun r23 =>
    (a8 (uR p1 p2 p3) (0,[],r23)).bind fun q=>match q with
    | (l10dx,l1000014dx) =>
     (bA l10dx).bind fun r43 =>
     (a8 (uS) (r43,l1000014dx)).bind fun q=>match q with
     | (l16ex,l1000014ex) =>
      (P.idx l16ex 0).bind fun x89 =>
      some ((aE.mk l1000014ex),x89,l10dx,0)
  | (.inr rb) =>
   some rb
def re (p0:(List Int)) (p1:(List Int)):(Int)→Option ((Int)⊕((Unit)⊕(Bool)))
 | s5a =>
  if decide (s5a<(p0.length:Int)) then
   (P.idx p0 s5a).bind fun x8 =>
   (P.idx p1 s5a).bind fun x9 =>
   if (x8 != x9) then
    some (.inr (.inr false))
   else
    some (.inl (IntKind.i64.wrap (s5a+1)))
  else
   some (.inr (.inl ()))
def gi (p0:(List Int)) (p1:(List Int)):Option (Bool) :=
 if ((p0.length:Int) != (p1.length:Int)) then
  some false
 else
  (a8 (re p0 p1) 0).bind fun q=>match q with
  | (.inl _) =>
   some true
  | (.inr ra) =>
   some ra
def sT (p0:(List Int)):(Int)→Option ((Int)⊕((Int)))
 | s3a =>
  if decide (s3a > 0) then
   (P.idx p0 (IntKind.i64.wrap (s3a - 1))).bind fun x6 =>
   if (x6==0) then
    some (.inl (IntKind.i64.wrap (s3a - 1)))
   else
    some (.inr s3a)
  else
   some (.inr s3a)
def gh (p0:(List Int)):Option ((List Int)) :=
 (a8 (sT p0) (p0.length:Int)).bind fun s3ax =>
 (CN p0 0 s3ax).bind fun x8 =>
 (iO 8 [] x8).bind fun _ =>
 some x8
def fH (p0:Int) (p1:(List Int)):Option (aw) :=
 (gh p1).bind fun r1 =>
 if ((r1.length:Int)==0) then
  some (aw.mk 0 ([]))
 else
  some (aw.mk p0 r1)
def tF:(Int×(List Int))→Option ((Int×(List Int))⊕(((List Int))))
 | (s0b,l4b) =>
  if (s0b != 0) then
   (vn .i64 s0b 1048576).bind fun x17 =>
   if decide (x17<0) then
    (iO 8 l4b [IntKind.i64.wrap (0 - x17)]).bind fun x20 =>
    (xn .i64 s0b 1048576).bind fun x22 =>
    some (.inl (x22,x20))
   else
    (iO 8 l4b [x17]).bind fun x24 =>
    (xn .i64 s0b 1048576).bind fun x26 =>
    some (.inl (x26,x24))
  else
   some (.inr l4b)
def qv (p0:Int):Option (aw) :=
 if (p0==0) then
  some (aw.mk 0 ([]))
 else
  (if decide (p0<0) then
   some (-1)
  else
   some 1).bind fun s3j1 =>
  (a8 (tF) (p0,[])).bind fun l4bx =>
  (fH s3j1 l4bx).bind fun r28 =>
  some r28
def mN (p0:aw):(Int)→Option ((Int)⊕((Unit)⊕(Bool)))
 | s3a =>
  if decide (s3a<(p0.aa.length:Int)) then
   (P.idx p0.aa s3a).bind fun x7 =>
   if decide (x7<0) then
    some (.inr (.inr false))
   else
    if decide (x7≥1048576) then
     some (.inr (.inr false))
    else
     some (.inl (IntKind.i64.wrap (s3a+1)))
  else
   some (.inr (.inl ()))
def dc (p0:aw):Option (Bool) :=
 (a8 (mN p0) 0).bind fun q=>match q with
 | (.inl _) =>
  (if decide (p0.ag<(-1)) then
   some true
  else
   if decide (p0.ag > 1) then
    some true
   else
    some (!(((p0.aa.length:Int)==0)==(p0.ag==0)))).bind fun s44j2 =>
  if s44j2 then
   some false
  else
   if ((p0.aa.length:Int)==0) then
    some true
   else
    (P.idx p0.aa (IntKind.i64.wrap ((p0.aa.length:Int) - 1))).bind fun x13 =>
    some (x13 != 0)
 | (.inr ra) =>
  some ra
def tE (p0:aw):Option (aw) :=
 (dc p0).bind fun r1 =>
 if (!r1) then
  some (aw.mk 0 ([]))
 else
  (fH (IntKind.i64.wrap (0 - p0.ag)) p0.aa).bind fun r3 =>
  some r3
def fO (p0:(List Int)) (p1:Int):Option (Int) :=
 if decide (p1<(p0.length:Int)) then
  (P.idx p0 p1).bind fun x2 =>
  some x2
 else
  some 0
def mQ (p0:(List Int)) (p1:(List Int)) (s6a:Int):(Int×Int×(List Int))→Option ((Int×Int×(List Int))⊕(((List Int))))
 | (s7e,s8e,l5e) =>
  (if decide (s8e<(p1.length:Int)) then
   some true
  else
   some (decide (s7e > 0))).bind fun s29j7 =>
  if s29j7 then
   (P.idx l5e (IntKind.i64.wrap (s6a+s8e))).bind fun x43 =>
   (P.idx p0 s6a).bind fun x44 =>
   (fO p1 s8e).bind fun r45 =>
   (vn .i64 (IntKind.i64.wrap ((IntKind.i64.wrap (x43+(IntKind.i64.wrap (x44*r45))))+s7e)) 1048576).bind fun x46 =>
   (xn .i64 (IntKind.i64.wrap ((IntKind.i64.wrap (x43+(IntKind.i64.wrap (x44*r45))))+s7e)) 1048576).bind fun x49 =>
   some (.inl (x49,IntKind.i64.wrap (s8e+1),(l5e.set (IntKind.i64.wrap (s6a+s8e)).toNat x46)))
  else
   some (.inr l5e)
def mP (p0:(List Int)) (p1:(List Int)):(Int×(List Int))→Option ((Int×(List Int))⊕(((List Int))))
 | (s6a,l5a) =>
  if decide (s6a<(p0.length:Int)) then
   (a8 (mQ p0 p1 s6a) (0,0,l5a)).bind fun l5ex =>
   some (.inl (IntKind.i64.wrap (s6a+1),l5ex))
  else
   some (.inr l5a)
def jr (p0:(List Int)) (p1:(List Int)):Option ((List Int)) :=
 (L5 8 (IntKind.i64.wrap ((p0.length:Int)+(p1.length:Int))) (IntKind.i64.wrap ((p0.length:Int)+(p1.length:Int))) 0).bind fun x1 =>
 (a8 (mP p0 p1) (0,x1)).bind fun l5ax =>
 (gh l5ax).bind fun r52 =>
 some r52
def ou (p0:(List Int)) (p1:(List Int)):(Int)→Option ((Int)⊕((Unit)⊕(Bool)))
 | s5a =>
  if decide (s5a≥0) then
   (fO p0 s5a).bind fun r7 =>
   (fO p1 s5a).bind fun r8 =>
   if (r7 != r8) then
    some (.inr (.inr (decide (r7<r8))))
   else
    some (.inl (IntKind.i64.wrap (s5a - 1)))
  else
   some (.inr (.inl ()))
def lX (p0:(List Int)) (p1:(List Int)):Option (Bool) :=
 (a8 (ou p0 p1) (IntKind.i64.wrap ((if (p1.length:Int) > (p0.length:Int) then (p1.length:Int) else (p0.length:Int)) - 1))).bind fun q=>match q with
 | (.inl _) =>
  some false
 | (.inr ra) =>
  some ra
def mO (p0:(List Int)) (p1:(List Int)):(Int×Int×(List Int))→Option ((Int×Int×(List Int))⊕(((List Int))))
 | (s6a,s7a,l5a) =>
  if decide (s7a<(p0.length:Int)) then
   (P.idx p0 s7a).bind fun x11 =>
   (fO p1 s7a).bind fun r12 =>
   if decide ((IntKind.i64.wrap ((IntKind.i64.wrap (x11 - r12)) - s6a))<0) then
    (iO 8 l5a [IntKind.i64.wrap ((IntKind.i64.wrap ((IntKind.i64.wrap (x11 - r12)) - s6a))+1048576)]).bind fun x14 =>
    some (.inl (1,IntKind.i64.wrap (s7a+1),x14))
   else
    (iO 8 l5a [IntKind.i64.wrap ((IntKind.i64.wrap (x11 - r12)) - s6a)]).bind fun x16 =>
    some (.inl (0,IntKind.i64.wrap (s7a+1),x16))
  else
   some (.inr l5a)
def kd (p0:(List Int)) (p1:(List Int)):Option ((List Int)) :=
 (a8 (mO p0 p1) (0,0,[])).bind fun l5ax =>
 (gh l5ax).bind fun r18 =>
 some r18
def lZ (p1:(List Int)) (r34:(List Int)):(Int×Int)→Option ((Int×Int)⊕((Int)))
 | (s9c,s10c) =>
  if decide ((IntKind.i64.wrap (s10c - s9c)) > 1) then
   (xn .i64 (IntKind.i64.wrap (s9c+s10c)) 2).bind fun x44 =>
   (jr p1 ([x44])).bind fun r47 =>
   (lX r34 r47).bind fun r48 =>
   if r48 then
    some (.inl (s9c,x44))
   else
    some (.inl (x44,s10c))
  else
   some (.inr s9c)
def ov (p0:(List Int)) (p1:(List Int)):((List Int)×Int×(List Int))→Option (((List Int)×Int×(List Int))⊕(((List Int)×(List Int))))
 | (s7a,s8a,l6a) =>
  if decide (s8a≥0) then
   (P.idx p0 s8a).bind fun x31 =>
   (iO 8 [x31] s7a).bind fun x32 =>
   (gh x32).bind fun r34 =>
   (a8 (lZ p1 r34) (0,1048576)).bind fun s9cx =>
   (P.idx l6a s8a).bind fun x50 =>
   (gh ([s9cx])).bind fun r53 =>
   (jr p1 r53).bind fun r54 =>
   (kd r34 r54).bind fun r55 =>
   some (.inl (r55,IntKind.i64.wrap (s8a - 1),(l6a.set (s8a).toNat s9cx)))
  else
   some (.inr (s7a,l6a))
def lY (p0:(List Int)) (p1:(List Int)):Option ((List Int)×(List Int)) :=
 (L5 8 (p0.length:Int) (p0.length:Int) 0).bind fun x1 =>
 (a8 (ov p0 p1) ([],IntKind.i64.wrap ((p0.length:Int) - 1),x1)).bind fun q=>match q with
 | (s7ax,l6ax) =>
  (gh l6ax).bind fun r56 =>
  some (r56,s7ax)
def nG:((List Int)×(List Int))→Option (((List Int)×(List Int))⊕(((List Int))))
 | (s6b,s7b) =>
  if decide ((s7b.length:Int) > 0) then
   (lY s6b s7b).bind fun r8 =>
   some (.inl (s7b,r8.2))
  else
   some (.inr s6b)
def ot (p0:aw) (p1:aw):Option (aw×Int) :=
 (dc p0).bind fun r1 =>
 (if (!r1) then
  some true
 else
  (dc p1).bind fun r11 =>
  some (!r11)).bind fun s17j1 =>
 if s17j1 then
  some ((aw.mk 0 ([])),1)
 else
  (a8 (nG) (p0.aa,p1.aa)).bind fun s6bx =>
  (fH 1 s6bx).bind fun r9 =>
  some (r9,0)
def zg (p0:(List Int)) (p1:(List Int)):(Int×Int×(List Int))→Option ((Int×Int×(List Int))⊕(((List Int))))
 | (s6a,s7a,l5a) =>
  (if decide (s7a<(p0.length:Int)) then
   some true
  else
   if decide (s7a<(p1.length:Int)) then
    some true
   else
    some (decide (s6a > 0))).bind fun s22j3 =>
  if s22j3 then
   (fO p0 s7a).bind fun r16 =>
   (fO p1 s7a).bind fun r17 =>
   (vn .i64 (IntKind.i64.wrap ((IntKind.i64.wrap (r16+r17))+s6a)) 1048576).bind fun x18 =>
   (iO 8 l5a [x18]).bind fun x20 =>
   (xn .i64 (IntKind.i64.wrap ((IntKind.i64.wrap (r16+r17))+s6a)) 1048576).bind fun x22 =>
   some (.inl (x22,IntKind.i64.wrap (s7a+1),x20))
  else
   some (.inr l5a)
def sS (p0:(List Int)) (p1:(List Int)):Option ((List Int)) :=
 (a8 (zg p0 p1) (0,0,[])).bind fun l5ax =>
 (gh l5ax).bind fun r26 =>
 some r26
def tC (p0:aw) (p1:aw):Option (aw×aw×Int) :=
 (dc p0).bind fun r1 =>
 (if (!r1) then
  some true
 else
  (dc p1).bind fun r17 =>
  some (!r17)).bind fun s16j1 =>
 if s16j1 then
  some ((aw.mk 0 ([])),(aw.mk 0 ([])),1)
 else
  if (p1.ag==0) then
   some ((aw.mk 0 ([])),(aw.mk 0 ([])),15)
  else
   (lY p0.aa p1.aa).bind fun r5 =>
   (if decide ((IntKind.i64.wrap (p0.ag*p1.ag))≥0) then
    some true
   else
    some ((r5.2.length:Int)==0)).bind fun s42j2 =>
   if s42j2 then
    (fH (IntKind.i64.wrap (p0.ag*p1.ag)) r5.1).bind fun r8 =>
    (fH p0.ag r5.2).bind fun r9 =>
    some (r8,r9,0)
   else
    (sS r5.1 ([1])).bind fun r11 =>
    (fH (-1) r11).bind fun r12 =>
    (kd p1.aa r5.2).bind fun r13 =>
    (fH p1.ag r13).bind fun r14 =>
    some (r12,r14,0)
def wV (p0:aw) (p1:aw):Option (aY×Int) :=
 (dc p0).bind fun r1 =>
 (if (!r1) then
  some true
 else
  (dc p1).bind fun r13 =>
  some (!r13)).bind fun s21j1 =>
 if s21j1 then
  some ((aY.mk (aw.mk 0 ([])) (aw.mk 0 ([]))),1)
 else
  if (p1.ag==0) then
   some ((aY.mk (aw.mk 0 ([])) (aw.mk 0 ([]))),15)
  else
   (if decide (p1.ag<0) then
    (tE p0).bind fun r10 =>
    (tE p1).bind fun r11 =>
    some (r10.ag,r10.aa,r11.ag,r11.aa)
   else
    some (p0.ag,p0.aa,p1.ag,p1.aa)).bind fun q=>match q with
   | (r2_0j2,r2_1j2,r3_0j2,r3_1j2) =>
    (ot (aw.mk r2_0j2 r2_1j2) (aw.mk r3_0j2 r3_1j2)).bind fun r6 =>
    (tC (aw.mk r2_0j2 r2_1j2) r6.1).bind fun r7 =>
    (tC (aw.mk r3_0j2 r3_1j2) r6.1).bind fun r8 =>
    some ((aY.mk r7.1 r8.1),0)
def Cy (p0:Int) (p1:Int):Option (aY×Int) :=
 (qv p0).bind fun r1 =>
 (qv p1).bind fun r2 =>
 (wV r1 r2).bind fun r3 =>
 some (r3.1,r3.2)
def tG (p0:Int):Option (aY) :=
 (Cy p0 1).bind fun r1 =>
 some r1.1
def gQ (p0:Int) (p1:Int):Option (dL) :=
 (tG p0).bind fun r1 =>
 (tG p1).bind fun r2 =>
 some (dL.mk r1 r2)
def mB (p0:aw):(Int)→Option ((Int)⊕((Unit)⊕(Bool)))
 | s12a =>
  if decide (s12a<(p0.aa.length:Int)) then
   (P.idx p0.aa s12a).bind fun x7 =>
   if decide (x7<0) then
    some (.inr (.inr false))
   else
    if decide (x7 > 1048575) then
     some (.inr (.inr false))
    else
     some (.inl (IntKind.i64.wrap (s12a+1)))
  else
   some (.inr (.inl ()))
def eh (p0:aw):Option (Bool) :=
 (a8 (mB p0) 0).bind fun q=>match q with
 | (.inl _) =>
  if ((p0.aa.length:Int)==0) then
   some (p0.ag==0)
  else
   if (p0.ag==1) then
    (P.idx p0.aa (IntKind.i64.wrap ((p0.aa.length:Int) - 1))).bind fun x12 =>
    some (x12 != 0)
   else
    if (p0.ag==(-1)) then
     (P.idx p0.aa (IntKind.i64.wrap ((p0.aa.length:Int) - 1))).bind fun x14 =>
     some (x14 != 0)
    else
     some false
 | (.inr ra) =>
  some ra
def fU (p0:Bool) (p1:aw):Option (aw×Int) :=
 if (!p0) then
  some ((aw.mk 0 ([])),1)
 else
  some (p1,0)
def jl (p0:Int):Option (Bool) :=
 some (p0 != p0)
def fW (p0:Int) (p1:Int):Option (Int) :=
 (jl p0).bind fun r1 =>
 (jl p1).bind fun r2 =>
 if r1 then
  if r2 then
   some 0
  else
   some (-1)
 else
  if r2 then
   some 1
  else
   if decide (p0<p1) then
    some (-1)
   else
    if decide (p0 > p1) then
     some 1
    else
     some 0
def kr (p0:(List Int)) (p1:(List Int)):(Int)→Option ((Int)⊕((Unit)⊕(Int)))
 | s5a =>
  if decide (s5a≥0) then
   (P.idx p0 s5a).bind fun x10 =>
   (P.idx p1 s5a).bind fun x11 =>
   if (x10 != x11) then
    (fW x10 x11).bind fun r13 =>
    some (.inr (.inr r13))
   else
    some (.inl (IntKind.i64.wrap (s5a - 1)))
  else
   some (.inr (.inl ()))
def fp (p0:(List Int)) (p1:(List Int)):Option (Int) :=
 if ((p0.length:Int) != (p1.length:Int)) then
  (fW (p0.length:Int) (p1.length:Int)).bind fun r2 =>
  some r2
 else
  (a8 (kr p0 p1) (IntKind.i64.wrap ((p0.length:Int) - 1))).bind fun q=>match q with
  | (.inl _) =>
   some 0
  | (.inr ra) =>
   some ra
def j8 (p0:(List Int)):(Int)→Option ((Int)⊕((Int)))
 | s3a =>
  if decide (s3a > 0) then
   (P.idx p0 (IntKind.i64.wrap (s3a - 1))).bind fun x6 =>
   if (x6==0) then
    some (.inl (IntKind.i64.wrap (s3a - 1)))
   else
    some (.inr s3a)
  else
   some (.inr s3a)
def eA (p0:(List Int)):Option ((List Int)) :=
 (a8 (j8 p0) (p0.length:Int)).bind fun s3ax =>
 (CN p0 0 s3ax).bind fun x8 =>
 some x8
def mD (p0:(List Int)) (p1:Int):(Int×Int×(List Int))→Option ((Int×Int×(List Int))⊕((Int×(List Int))))
 | (s7a,s8a,l6a) =>
  if decide (s8a≥0) then
   (DT .i64 s7a 20).bind fun x15 =>
   (P.idx p0 s8a).bind fun x17 =>
   (xn .i64 (ng .or .i64 x15 x17) p1).bind fun x18 =>
   (P.idx l6a s8a).bind fun x20 =>
   (vn .i64 (ng .or .i64 x15 x17) p1).bind fun x22 =>
   some (.inl (x22,IntKind.i64.wrap (s8a - 1),(l6a.set (s8a).toNat x18)))
  else
   some (.inr (s7a,l6a))
def j7 (p0:(List Int)) (p1:Int):Option ((List Int)×Int) :=
 (L5 8 (p0.length:Int) (p0.length:Int) 0).bind fun x1 =>
 (a8 (mD p0 p1) (0,IntKind.i64.wrap ((p0.length:Int) - 1),x1)).bind fun q=>match q with
 | (s7ax,l6ax) =>
  (eA l6ax).bind fun r24 =>
  some (r24,s7ax)
def pS (p1:(List Int)) (s20a:Int) (x22:Int):(Int×Int×(List Int))→Option ((Int×Int×(List Int))⊕((Int×(List Int))))
 | (s8c,s27c,l5c) =>
  if decide (s27c<(p1.length:Int)) then
   (P.idx p1 s27c).bind fun x31 =>
   (P.idx l5c (IntKind.i64.wrap (s20a+s27c))).bind fun x32 =>
   (yd .i64 (IntKind.i64.wrap ((IntKind.i64.wrap (x32+(IntKind.i64.wrap (x22*x31))))+s8c)) 20).bind fun x33 =>
   some (.inl (x33,IntKind.i64.wrap (s27c+1),(l5c.set (IntKind.i64.wrap (s20a+s27c)).toNat (ng .and .i64 (IntKind.i64.wrap ((IntKind.i64.wrap (x32+(IntKind.i64.wrap (x22*x31))))+s8c)) 1048575))))
  else
   some (.inr (s8c,l5c))
def pR (p0:(List Int)) (p1:(List Int)):(Int×(List Int))→Option ((Int×(List Int))⊕(((List Int))))
 | (s20a,l5a) =>
  if decide (s20a<(p0.length:Int)) then
   (P.idx p0 s20a).bind fun x22 =>
   (a8 (pS p1 s20a x22) (0,0,l5a)).bind fun q=>match q with
   | (s8cx,l5cx) =>
    (P.idx l5cx (IntKind.i64.wrap (s20a+(p1.length:Int)))).bind fun x36 =>
    some (.inl (IntKind.i64.wrap (s20a+1),(l5cx.set (IntKind.i64.wrap (s20a+(p1.length:Int))).toNat (IntKind.i64.wrap (x36+s8cx)))))
  else
   some (.inr l5a)
def mC (p0:(List Int)) (p1:(List Int)):Option ((List Int)) :=
 (L5 8 (IntKind.i64.wrap ((p0.length:Int)+(p1.length:Int))) (IntKind.i64.wrap ((p0.length:Int)+(p1.length:Int))) 0).bind fun x1 =>
 (a8 (pR p0 p1) (0,x1)).bind fun l5ax =>
 (eA l5ax).bind fun r39 =>
 some r39
def jL (p0:(List Int)) (p1:(List Int)) (p2:Int):(Int×Int×(List Int))→Option ((Int×Int×(List Int))⊕((Int×(List Int))))
 | (s7a,s14a,l0a) =>
  if decide (s14a<((p0).length:Int)) then
   (P.idx l0a s14a).bind fun x11 =>
   (if decide (s14a<(p1.length:Int)) then
    (P.idx p1 s14a).bind fun x17 =>
    some (IntKind.i64.wrap ((IntKind.i64.wrap (x11 - s7a)) - (IntKind.i64.wrap (p2*x17))))
   else
    some (IntKind.i64.wrap (x11 - s7a))).bind fun s9j3 =>
   (yd .i64 s9j3 20).bind fun x14 =>
   some (.inl (IntKind.i64.wrap (0 - x14),IntKind.i64.wrap (s14a+1),(l0a.set (s14a).toNat (ng .and .i64 s9j3 1048575))))
  else
   some (.inr (s7a,l0a))
def jM (p1:(List Int)) (l0ax:(List Int)):(Int×Int×(List Int))→Option ((Int×Int×(List Int))⊕(((List Int))))
 | (s10d,s49d,l0d) =>
  if decide (s49d<((l0ax).length:Int)) then
   (P.idx l0d s49d).bind fun x29 =>
   (if decide (s49d<(p1.length:Int)) then
    (P.idx p1 s49d).bind fun x35 =>
    some (IntKind.i64.wrap ((IntKind.i64.wrap (s10d+x29))+x35))
   else
    some (IntKind.i64.wrap (s10d+x29))).bind fun s10j6 =>
   (yd .i64 s10j6 20).bind fun x32 =>
   some (.inl (x32,IntKind.i64.wrap (s49d+1),(l0d.set (s49d).toNat (ng .and .i64 s10j6 1048575))))
  else
   some (.inr l0d)
def nf (p0:(List Int)) (p1:(List Int)) (p2:Int):Option ((List Int)×(Int)) :=
 (a8 (jL p0 p1 p2) (0,0,p0)).bind fun q=>match q with
 | (s7ax,l0ax) =>
  if (s7ax==0) then
   some (l0ax,p2)
  else
   (a8 (jM p1 l0ax) (0,0,l0ax)).bind fun l0dx =>
   some (l0dx,IntKind.i64.wrap (p2 - 1))
def fc (p0:(List Int)) (p1:(List Int)) (p2:Int):Option ((List Int)×(Int)):=(nf p0 p1 p2).bind fun r=>if r.1.length=p0.length then some r else none
theorem xL {p0:(List Int)} {p1:(List Int)} {p2:Int} {r:(List Int)×(Int)} (h:fc p0 p1 p2=some r):r.1.length=p0.length:=by
 unfold fc at h
 obtain ⟨q,hq,h⟩:=ae h
 split at h
 ·cases h; assumption
 ·cases h
def pO (p1:(List Int)):(Int)→Option ((Int)⊕((Int)))
 | s8a =>
  (P.idx p1 (IntKind.i64.wrap ((p1.length:Int) - 1))).bind fun x12 =>
  if decide ((IntKind.i64.wrap (x12*s8a))<524288) then
   some (.inl (IntKind.i64.wrap (s8a*2)))
  else
   some (.inr s8a)
def pQ (r19:(List Int)) (s13c:Int) (l9c:(List Int)) (x64:Int):(Int×Int)→Option ((Int×Int)⊕((Int)))
 | (s15g,s16g) =>
  (if decide (s15g≥1048576) then
   some true
  else
   if decide (s16g<1048576) then
    (P.idx r19 (IntKind.i64.wrap (((r19).length:Int) - 2))).bind fun x83 =>
    (DT .i64 s16g 20).bind fun x84 =>
    (P.idx l9c (IntKind.i64.wrap ((IntKind.i64.wrap (s13c+((r19).length:Int))) - 2))).bind fun x86 =>
    some (decide ((IntKind.i64.wrap (s15g*x83)) > (ng .or .i64 x84 x86)))
   else
    some false).bind fun s137j9 =>
  if s137j9 then
   some (.inl (IntKind.i64.wrap (s15g - 1),IntKind.i64.wrap (s16g+x64)))
  else
   some (.inr s15g)
def pP (r19:(List Int)):(Int×(List Int)×(List Int))→Option ((Int×(List Int)×(List Int))⊕(((List Int)×(List Int))))
 | (s13c,l9c,l12c) =>
  if decide (s13c≥0) then
   (P.idx l9c (IntKind.i64.wrap (s13c+((r19).length:Int)))).bind fun x60 =>
   (DT .i64 x60 20).bind fun x61 =>
   (P.idx l9c (IntKind.i64.wrap ((IntKind.i64.wrap (s13c+((r19).length:Int))) - 1))).bind fun x63 =>
   (P.idx r19 (IntKind.i64.wrap (((r19).length:Int) - 1))).bind fun x64 =>
   (xn .i64 (ng .or .i64 x61 x63) x64).bind fun x65 =>
   (vn .i64 (ng .or .i64 x61 x63) x64).bind fun x67 =>
   (a8 (pQ r19 s13c l9c x64) (x65,x67)).bind fun s15gx =>
   (CN l9c s13c (IntKind.i64.wrap ((IntKind.i64.wrap (s13c+((r19).length:Int)))+1))).bind fun x87 =>
   (fc x87 r19 s15gx).bind fun r90 =>
   (P.idx l12c s13c).bind fun x92 =>
   some (.inl (IntKind.i64.wrap (s13c - 1),(l9c.take (s13c).toNat++(r90.1++l9c.drop (IntKind.i64.wrap ((IntKind.i64.wrap (s13c+((r19).length:Int)))+1)).toNat)),(l12c.set (s13c).toNat r90.2)))
  else
   some (.inr (l9c,l12c))
def pN (p0:(List Int)) (p1:(List Int)):Option ((List Int)×(List Int)) :=
 (fp p0 p1).bind fun r1 =>
 if decide (r1<0) then
  (bA p0).bind fun r3 =>
  some ([],r3)
 else
  if ((p1.length:Int)==1) then
   (P.idx p1 0).bind fun x5 =>
   (j7 p0 x5).bind fun r6 =>
   (eA ([r6.2])).bind fun r8 =>
   some (r6.1,r8)
  else
   (a8 (pO p1) 1).bind fun s8ax =>
   (mC p0 ([s8ax])).bind fun r15 =>
   (iO 8 r15 [0]).bind fun x16 =>
   (mC p1 ([s8ax])).bind fun r19 =>
   (if (((x16).length:Int)==(p0.length:Int)) then
    (iO 8 x16 [0]).bind fun x98 =>
    some x98
   else
    some x16).bind fun l9j2 =>
   (L5 8 (IntKind.i64.wrap (((l9j2).length:Int) - ((r19).length:Int))) (IntKind.i64.wrap (((l9j2).length:Int) - ((r19).length:Int))) 0).bind fun x21 =>
   (a8 (pP r19) (IntKind.i64.wrap (((x21).length:Int) - 1),l9j2,x21)).bind fun q=>match q with
   | (l9cx,l12cx) =>
    (eA l9cx).bind fun r94 =>
    (j7 r94 s8ax).bind fun r95 =>
    (eA l12cx).bind fun r96 =>
    some (r96,r95.1)
def fD (p0:Int) (p1:(List Int)):Option (aw) :=
 (eA p1).bind fun r1 =>
 if ((r1.length:Int)==0) then
  some (aw.mk 0 ([]))
 else
  some (aw.mk p0 r1)
def nd:((List Int)×(List Int))→Option (((List Int)×(List Int))⊕(((List Int))))
 | (s6b,s7b) =>
  if decide ((s7b.length:Int) > 0) then
   (pN s6b s7b).bind fun r11 =>
   some (.inl (s7b,r11.2))
  else
   some (.inr s6b)
def pJ (p0:aw) (p1:aw):Option (aw×Int) :=
 (eh p0).bind fun r1 =>
 (if (!r1) then
  some true
 else
  (eh p1).bind fun r16 =>
  some (!r16)).bind fun s17j1 =>
 if s17j1 then
  (fU false (aw.mk 0 ([]))).bind fun r5 =>
  some (r5.1,r5.2)
 else
  (bA p0.aa).bind fun r6 =>
  (a8 (nd) (r6,p1.aa)).bind fun s6bx =>
  (bA s6bx).bind fun r12 =>
  (fD 1 r12).bind fun r13 =>
  (fU true r13).bind fun r14 =>
  some (r14.1,r14.2)
def pL (p0:aw):(Int×Int)→Option ((Int×Int)⊕((Int)⊕(Int×Bool)))
 | (s4b,s19b) =>
  if decide (s19b<(p0.aa.length:Int)) then
   (P.idx p0.aa s19b).bind fun x13 =>
   (if (s19b==3) then
    some (decide (x13 > 8))
   else
    some false).bind fun s29j4 =>
   if s29j4 then
    some (.inr (.inr (0,false)))
   else
    (DT .u64 (IntKind.u64.wrap x13) (IntKind.i64.wrap (20*s19b))).bind fun x16 =>
    some (.inl (ng .or .u64 s4b x16,IntKind.i64.wrap (s19b+1)))
  else
   some (.inr (.inl s4b))
def pK (p0:aw):Option (Int×Bool) :=
 (eh p0).bind fun r1 =>
 (if (!r1) then
  some true
 else
  some (decide ((p0.aa.length:Int) > 4))).bind fun s15j1 =>
 if s15j1 then
  some (0,false)
 else
  (a8 (pL p0) (0,0)).bind fun q=>match q with
  | (.inl s4bx) =>
   (if decide (p0.ag<0) then
    some (decide (s4bx≤9223372036854775808))
   else
    some false).bind fun s38j5 =>
   if s38j5 then
    some (IntKind.i64.wrap (IntKind.u64.wrap (0 - s4bx)),true)
   else
    if decide (p0.ag≥0) then
     if decide (s4bx<9223372036854775808) then
      some (IntKind.i64.wrap s4bx,true)
     else
      some (0,false)
    else
     some (0,false)
  | (.inr rb) =>
   some rb
def nA (p0:aw):Option (Bool) :=
 (pK p0).bind fun r1 =>
 if r1.2 then
  some (r1.1==1)
 else
  some false
def eW (p0:aY):Option (Bool) :=
 (eh p0.cr).bind fun r1 =>
 (if (!r1) then
  some true
 else
  (eh p0.cq).bind fun r8 =>
  if (!r8) then
   some true
  else
   some (p0.cq.ag != 1)).bind fun s20j1 =>
 if s20j1 then
  some false
 else
  (pJ p0.cr p0.cq).bind fun r4 =>
  if (r4.2==0) then
   (nA r4.1).bind fun r6 =>
   some r6
  else
   some false
def pM (p0:aw) (p1:aw):Option (aw×Int) :=
 (eh p0).bind fun r1 =>
 (if (!r1) then
  some true
 else
  (eh p1).bind fun r10 =>
  some (!r10)).bind fun s13j1 =>
 if s13j1 then
  (fU false (aw.mk 0 ([]))).bind fun r5 =>
  some (r5.1,r5.2)
 else
  (mC p0.aa p1.aa).bind fun r6 =>
  (fD (IntKind.i64.wrap (p0.ag*p1.ag)) r6).bind fun r7 =>
  (fU true r7).bind fun r8 =>
  some (r8.1,r8.2)
def gr (p0:aw) (p1:aw):Option (aw) :=
 (pM p0 p1).bind fun r1 =>
 some r1.1
def iT (p0:aw) (p1:aw):Option (Int) :=
 (eh p0).bind fun r1 =>
 (if (!r1) then
  some true
 else
  (eh p1).bind fun r8 =>
  some (!r8)).bind fun s12j1 =>
 if s12j1 then
  some 0
 else
  if (p0.ag != p1.ag) then
   (fW p0.ag p1.ag).bind fun r5 =>
   some r5
  else
   (fp p0.aa p1.aa).bind fun r6 =>
   some (IntKind.i64.wrap (p0.ag*r6))
def fh (p0:aY) (p1:aY):Option (Int) :=
 (eW p0).bind fun r1 =>
 (if (!r1) then
  some true
 else
  (eW p1).bind fun r8 =>
  some (!r8)).bind fun s12j1 =>
 if s12j1 then
  some 0
 else
  (gr p0.cr p1.cq).bind fun r4 =>
  (gr p1.cr p0.cq).bind fun r5 =>
  (iT r4 r5).bind fun r6 =>
  some r6
def gu (p0:dL):Option (Bool) :=
 (eW p0.bx).bind fun r1 =>
 if r1 then
  (eW p0.aT).bind fun r3 =>
  if r3 then
   (fh p0.bx p0.aT).bind fun r5 =>
   some (decide (r5≤0))
  else
   some false
 else
  some false
def iz (p0:az):Option (Bool) :=
 (gu p0.bD).bind fun r1 =>
 some (!r1)
def il (p0:Int):Option (Int) :=
 (if decide (p0≥4294967296) then
  (yd .u64 p0 32).bind fun x14 =>
  some (x14,32)
 else
  some (p0,0)).bind fun q=>match q with
 | (s0j1,s2j1) =>
  (if decide (s0j1≥65536) then
   (yd .u64 s0j1 16).bind fun x11 =>
   some (x11,IntKind.i64.wrap (s2j1+16))
  else
   some (s0j1,s2j1)).bind fun q=>match q with
  | (s0j2,s2j2) =>
   if decide (s0j2≥256) then
    (yd .u64 s0j2 8).bind fun x4 =>
    (P.TL VQ (IntKind.u8.wrap x4)).bind fun x6 =>
    some (IntKind.i64.wrap ((IntKind.i64.wrap (s2j2+8))+(IntKind.i64.wrap x6)))
   else
    (P.TL VQ (IntKind.u8.wrap s0j2)).bind fun x8 =>
    some (IntKind.i64.wrap (s2j2+(IntKind.i64.wrap x8)))
def jA (p0:Int):Option (Int) :=
 (il p0).bind fun r1 =>
 some r1
def rG (p0:Int) (p1:Int):Option (Bool) :=
 (jl p0).bind fun r1 =>
 if r1 then
  (jl p1).bind fun r3 =>
  if (!r3) then
   some true
  else
   some (decide (p0<p1))
 else
  some (decide (p0<p1))
def gm (p1:Int):(Int×(List Int))→Option ((Int×(List Int))⊕(((List Int))))
 | (s7e,l0e) =>
  (if decide (s7e > p1) then
   (P.idx l0e s7e).bind fun x47 =>
   (P.idx l0e (IntKind.i64.wrap (s7e - 1))).bind fun x48 =>
   (rG x47 x48).bind fun r49 =>
   some r49
  else
   some false).bind fun s30j7 =>
  if s30j7 then
   (P.idx l0e (IntKind.i64.wrap (s7e - 1))).bind fun x41 =>
   (P.idx l0e s7e).bind fun x42 =>
   (P.idx (l0e.set (s7e).toNat x41) (IntKind.i64.wrap (s7e - 1))).bind fun x44 =>
   some (.inl (IntKind.i64.wrap (s7e - 1),((l0e.set (s7e).toNat x41).set (IntKind.i64.wrap (s7e - 1)).toNat x42)))
  else
   some (.inr l0e)
def gj (p1:Int) (p2:Int):(Int×(List Int))→Option ((Int×(List Int))⊕(((List Int))))
 | (s6a,l0a) =>
  if decide (s6a<p2) then
   (a8 (gm p1) (s6a,l0a)).bind fun l0ex =>
   some (.inl (IntKind.i64.wrap (s6a+1),l0ex))
  else
   some (.inr l0a)
def gx (p0:(List Int)) (p1:Int) (p2:Int):Option ((List Int)×(Unit)) :=
 (a8 (gj p1 p2) (IntKind.i64.wrap (p1+1),p0)).bind fun l0ax =>
 some (l0ax,())
def bQ (p0:(List Int)) (p1:Int) (p2:Int):Option ((List Int)×(Unit)):=(gx p0 p1 p2).bind fun r=>if r.1.length=p0.length then some r else none
theorem kl {p0:(List Int)} {p1:Int} {p2:Int} {r:(List Int)×(Unit)} (h:bQ p0 p1 p2=some r):r.1.length=p0.length:=by
 unfold bQ at h
 obtain ⟨q,hq,h⟩:=ae h
 split at h
 ·cases h; assumption
 ·cases h
def je (p0:(List Int)) (p1:Int) (p2:Int) (p3:Int):(Unit)→Option ((Unit)⊕(((List Int)×(Unit))))
 | _ =>
  if decide ((IntKind.i64.wrap (p2 - p1))≤12) then
   (bQ p0 p1 p2).bind fun r9 =>
   some (.inr (r9.1,()))
  else
   if (p3==0) then
    none
   else
    none
def jt (p0:(List Int)) (p1:Int) (p2:Int) (p3:Int):Option ((List Int)×(Unit)) :=
 (a8 (je p0 p1 p2 p3) ()).bind fun ra =>
 some ra
def cu (p0:(List Int)) (p1:Int) (p2:Int) (p3:Int):Option ((List Int)×(Unit)):=(jt p0 p1 p2 p3).bind fun r=>if r.1.length=p0.length then some r else none
theorem mF {p0:(List Int)} {p1:Int} {p2:Int} {p3:Int} {r:(List Int)×(Unit)} (h:cu p0 p1 p2 p3=some r):r.1.length=p0.length:=by
 unfold cu at h
 obtain ⟨q,hq,h⟩:=ae h
 split at h
 ·cases h; assumption
 ·cases h
def ri (p0:(List Int)):Option ((List Int)×(Unit)) :=
 (jA (IntKind.u64.wrap ((p0).length:Int))).bind fun r1 =>
 (cu p0 0 ((p0).length:Int) r1).bind fun r3 =>
 some (r3.1,())
def oR (p0:(List Int)):Option ((List Int)×(Unit)):=(ri p0).bind fun r=>if r.1.length=p0.length then some r else none
def jS (p0:(List Int)):Option ((List Int)×Unit):=if p0.length<4611686018427387904 then some (gn p0,()) else none
theorem B2 {p0:(List Int)} {r:(List Int)×Unit} (h:jS p0=some r):r.1.length=p0.length:=by
 unfold jS at h
 split at h
 ·cases h; exact fA p0
 ·cases h
def jd (p0:(List Int)):Option (List Int):=NA p0
def fT (p0:(List Int)):Option (Bool) :=
 (bA p0).bind fun r1 =>
 (jS r1).bind fun r3 =>
 (jd r3.1).bind fun r6 =>
 some (decide (((r6).length:Int)<(p0.length:Int)))
def nK (p0:aE) (p1:Int):Option (Bool) :=
 if decide (p1≥0) then
  some (decide (p1<(p0.ah.length:Int)))
 else
  some false
def jF (p0:aE) (p1:(List Int)):(Int)→Option ((Int)⊕((Unit)⊕(Bool)))
 | s18b =>
  if decide (s18b<(p1.length:Int)) then
   (P.idx p1 s18b).bind fun x15 =>
   (nK p0 x15).bind fun r16 =>
   if (!r16) then
    some (.inr (.inr false))
   else
    if decide (s18b > 0) then
     (P.idx p1 (IntKind.i64.wrap (s18b - 1))).bind fun x19 =>
     (P.idx p0.ah x19).bind fun x20 =>
     if (x20.dp != x15) then
      if (x20.cK != x15) then
       some (.inr (.inr false))
      else
       some (.inl (IntKind.i64.wrap (s18b+1)))
     else
      some (.inl (IntKind.i64.wrap (s18b+1)))
    else
     some (.inl (IntKind.i64.wrap (s18b+1)))
  else
   some (.inr (.inl ()))
def jU (p0:aE) (p1:(List Int)):Option (Bool) :=
 (dI p0).bind fun r1 =>
 (if (!r1) then
  some true
 else
  some ((p1.length:Int)==0)).bind fun s15j1 =>
 if s15j1 then
  some false
 else
  (a8 (jF p0 p1) 0).bind fun q=>match q with
  | (.inl _) =>
   some true
  | (.inr rb) =>
   some rb
def kh (p0:ax):Option (Bool) :=
 some (p0.dp==(-1))
def gU (p0:aE) (p1:Int) (p2:ByteArray) (p3:Int) (p4:Int):Option (Bool) :=
 (dI p0).bind fun r1 =>
 (if (!r1) then
  some true
 else
  (dZ p1 (IntKind.i64.wrap ((p0.ah.length:Int) - 1))).bind fun r8 =>
  some (!r8)).bind fun s23j1 =>
 if s23j1 then
  some false
 else
  (P.idx p0.ah p1).bind fun x4 =>
  if (x4.cR.toList==p2.toList) then
   if (x4.bd==p3) then
    some (x4.bz==p4)
   else
    some false
  else
   some false
def jT (p0:aE) (p1:(List Int)) (p2:Int) (p3:Int) (p4:ByteArray) (p5:Int) (p6:Int):Option (Bool) :=
 (jU p0 p1).bind fun r1 =>
 if (!r1) then
  some false
 else
  (P.idx p1 0).bind fun x3 =>
  (P.idx p0.ah x3).bind fun x4 =>
  (P.idx p1 (IntKind.i64.wrap ((p1.length:Int) - 1))).bind fun x5 =>
  if (x4.bd==p2) then
   if (x4.bz==p3) then
    (P.idx p0.ah x5).bind fun x8 =>
    (kh x8).bind fun r9 =>
    if r9 then
     (gU p0 x5 p4 p5 p6).bind fun r11 =>
     some r11
    else
     some false
   else
    some false
  else
   some false
def dS (p0:jQ) (p1:aG):Option (Bool) :=
 if decide ((p1.eG.length:Int) > 0) then
  (P.idx p1.eG 0).bind fun x2 =>
  if (x2==p0.xt) then
   (P.idx p1.eG (IntKind.i64.wrap ((p1.eG.length:Int) - 1))).bind fun x4 =>
   if (x4==p1.bn) then
    (jT p0.Tq p1.eG p0.tz p0.tx p1.cR p1.bd p1.bz).bind fun r6 =>
    some r6
   else
    some false
  else
   some false
 else
  some false
def tn:(Int×(List Int))→Option ((Int×(List Int))⊕(((List Int))))
 | (s4b,l5b) =>
  if decide (s4b > 0) then
   (iO 8 l5b [IntKind.i64.wrap (ng .and .u64 s4b 1048575)]).bind fun x9 =>
   (yd .u64 s4b 20).bind fun x11 =>
   some (.inl (x11,x9))
  else
   some (.inr l5b)
def rB (p0:Int):Option (aw) :=
 (if decide (p0<0) then
  some ((-1),IntKind.u64.wrap (0 - (IntKind.u64.wrap p0)))
 else
  some (1,IntKind.u64.wrap p0)).bind fun q=>match q with
 | (s3j1,s4j1) =>
  (a8 (tn) (s4j1,[])).bind fun l5bx =>
  (fD s3j1 l5bx).bind fun r13 =>
  some r13
def ny (p0:Int):Option (aY) :=
 (rB p0).bind fun r1 =>
 (rB 1).bind fun r2 =>
 some (aY.mk r1 r2)
def kP (p0:dL) (p1:aY):Option (Bool) :=
 (gu p0).bind fun r1 =>
 if r1 then
  (eW p1).bind fun r3 =>
  if r3 then
   (fh p0.bx p1).bind fun r5 =>
   if decide (r5≤0) then
    (fh p1 p0.aT).bind fun r7 =>
    some (decide (r7≤0))
   else
    some false
  else
   some false
 else
  some false
def dG (p0:aG) (p1:Int):Option (Bool) :=
 some (p0.bn==p1)
def dH (p0:az) (p1:Int) (p2:aY):Option (Bool) :=
 if (p0.bn==p1) then
  (kP p0.bD p2).bind fun r2 =>
  some (!r2)
 else
  some false
def bZ (p0:(List aG)) (p1c0:Int):(Int)→Option ((Int)⊕((Unit)⊕(Int)))
 | s8a =>
  if decide (s8a<(p0.length:Int)) then
   (P.idx p0 s8a).bind fun x7 =>
   (dG x7 p1c0).bind fun r8 =>
   if r8 then
    some (.inr (.inr s8a))
   else
    some (.inl (IntKind.i64.wrap (s8a+1)))
  else
   some (.inr (.inl ()))
def bc (p0:(List aG)) (p1c0:Int):Option (Int) :=
 (a8 (bZ p0 p1c0) 0).bind fun q=>match q with
 | (.inl _) =>
  some (-1)
 | (.inr ra) =>
  some ra
def cd (p0:(List az)) (p1c0:Int) (p1c1:aY):(Int)→Option ((Int)⊕((Unit)⊕(Int)))
 | s8a =>
  if decide (s8a<(p0.length:Int)) then
   (P.idx p0 s8a).bind fun x7 =>
   (dH x7 p1c0 p1c1).bind fun r8 =>
   if r8 then
    some (.inr (.inr s8a))
   else
    some (.inl (IntKind.i64.wrap (s8a+1)))
  else
   some (.inr (.inl ()))
def bH (p0:(List az)) (p1c0:Int) (p1c1:aY):Option (Int) :=
 (a8 (cd p0 p1c0 p1c1) 0).bind fun q=>match q with
 | (.inl _) =>
  some (-1)
 | (.inr ra) =>
  some ra
def ba (p0:(List az)) (p1c0:Int) (p1c1:aY):Option (Bool) :=
 (bH p0 p1c0 p1c1).bind fun r1 =>
 some (decide (r1≥0))
def dF (p0:jQ) (p1:Int) (p2:(List aG)) (p3:(List az)):Option (Int) :=
 (bc p2 p1).bind fun r1 =>
 if decide (r1<0) then
  some 0
 else
  (P.idx p2 r1).bind fun x3 =>
  (dS p0 x3).bind fun r4 =>
  if (!r4) then
   some 1
  else
   (ny x3.bd).bind fun r6 =>
   (ba p3 p1 r6).bind fun r7 =>
   if r7 then
    some 2
   else
    some (-1)
def cL (p0:(List az)):(Int)→Option ((Int)⊕((Unit)⊕(Int)))
 | s8a =>
  if decide (s8a<(p0.length:Int)) then
   (P.idx p0 s8a).bind fun x7 =>
   (iz x7).bind fun r8 =>
   if r8 then
    some (.inr (.inr s8a))
   else
    some (.inl (IntKind.i64.wrap (s8a+1)))
  else
   some (.inr (.inl ()))
def ca (p0:(List az)):Option (Int) :=
 (a8 (cL p0) 0).bind fun q=>match q with
 | (.inl _) =>
  some (-1)
 | (.inr ra) =>
  some ra
def aN (p0:(List az)):Option (Bool) :=
 (ca p0).bind fun r1 =>
 some (decide (r1≥0))
def dR (p0:aE) (p1:Int) (p2:Int) (p3:Int) (p4:(List Int)) (p5:(List aG)) (p6:(List az)):(Int×(List bB))→Option ((Int×(List bB))⊕(((List bB))))
 | (s49b,l17b) =>
  if decide (s49b<(p4.length:Int)) then
   (P.idx p4 s49b).bind fun x16 =>
   (dF (jQ.mk p0 p1 p2 p3) x16 p5 p6).bind fun r17 =>
   if (r17 != (-1)) then
    (iO 16 l17b [(bB.mk x16 r17)]).bind fun x19 =>
    some (.inl (IntKind.i64.wrap (s49b+1),x19))
   else
    some (.inl (IntKind.i64.wrap (s49b+1),l17b))
  else
   some (.inr l17b)
def er (p0:aE) (p1:Int) (p2:Int) (p3:Int) (p4:(List Int)) (p5:(List aG)) (p6:(List az)):Option ((List bB)×Int) :=
 (dI p0).bind fun r1 =>
 (if (!r1) then
  some true
 else
  if decide (p1<0) then
   some true
  else
   some (decide (p1≥(p0.ah.length:Int)))).bind fun s21j1 =>
 if s21j1 then
  some ([],1)
 else
  (aN p6).bind fun r4 =>
  if r4 then
   some ([],1)
  else
   (fT p4).bind fun r6 =>
   if r6 then
    some ([],5)
   else
    (a8 (dR p0 p1 p2 p3 p4 p5 p6) (0,[])).bind fun l17bx =>
    some (l17bx,0)
def l5 (p0:(List bB)) (p1:(List bB)):(Int)→Option ((Int)⊕((Unit)⊕(Bool)))
 | s5a =>
  if decide (s5a<(p0.length:Int)) then
   (P.idx p0 s5a).bind fun x8 =>
   (P.idx p1 s5a).bind fun x9 =>
   if (!((x8.bn==x9.bn)&&(x8.ky==x9.ky))) then
    some (.inr (.inr false))
   else
    some (.inl (IntKind.i64.wrap (s5a+1)))
  else
   some (.inr (.inl ()))
def l4 (p0:(List bB)) (p1:(List bB)):Option (Bool) :=
 if ((p0.length:Int) != (p1.length:Int)) then
  some false
 else
  (a8 (l5 p0 p1) 0).bind fun q=>match q with
  | (.inl _) =>
   some true
  | (.inr ra) =>
   some ra
def jy (p0:aE) (p1:(List Int)) (p2:Int) (p3:(List az)) (p4:(List bB)):Option (Bool) :=
 (er p0 4 60 24 p1 ([(aG.mk 1 ([4,3,1]) (ByteArray.mk #[98]) p2 8)]) p3).bind fun r2 =>
 if (r2.2==0) then
  (l4 r2.1 p4).bind fun r4 =>
  some r4
 else
  some false
def strconv_Itoa (p0:Int):Option ByteArray:=VZ p0
def ke (p0:(List ax)):Option (List ax):=if p0.length≤maxLen then some p0 else none
def lA (p0:aE) (p1:ax):Option (aE×Int×Int) :=
 (dY p0.ah).bind fun r1 =>
 (ke r1).bind fun r2 =>
 (iO 48 r2 [p1]).bind fun x3 =>
 some ((aE.mk x3),(p0.ah.length:Int),0)
def jV (p0:aE) (p1:ByteArray) (p2:Int) (p3:Int):Option (aE×Int×Int) :=
 (dI p0).bind fun r1 =>
 (if (!r1) then
  some true
 else
  (jh (ax.mk p1 p2 p3 (-1) (-1))).bind fun r7 =>
  some (!r7)).bind fun s16j1 =>
 if s16j1 then
  some ((aE.mk ([])),(-1),1)
 else
  if decide ((p0.ah.length:Int)≥2000) then
   some ((aE.mk ([])),(-1),6)
  else
   (lA p0 (ax.mk p1 p2 p3 (-1) (-1))).bind fun r5 =>
   some (r5.1,r5.2.1,r5.2.2)
def jE (p0:(List Int)) (p1:Int):(Int)→Option ((Int)⊕((Unit)⊕(Bool)))
 | s22b =>
  if decide (s22b<(p0.length:Int)) then
   (P.idx p0 s22b).bind fun x9 =>
   if decide (x9<0) then
    some (.inr (.inr false))
   else
    if decide (x9≥(IntKind.i64.wrap (p1 - s22b))) then
     some (.inr (.inr false))
    else
     some (.inl (IntKind.i64.wrap (s22b+1)))
  else
   some (.inr (.inl ()))
def jf (p0:(List Int)) (p1:Int):Option (Bool) :=
 (if decide (p1<0) then
  some true
 else
  if decide (p1 > 1099511627776) then
   some true
  else
   some (decide ((p0.length:Int) > (if 100<p1 then 100 else p1)))).bind fun s19j1 =>
 if s19j1 then
  some false
 else
  (a8 (jE p0 p1) 0).bind fun q=>match q with
  | (.inl _) =>
   some true
  | (.inr rb) =>
   some rb
def js (p1:Int) (x26:(List Int)):(Int×(List Int))→Option ((Int×(List Int))⊕(((List Int))))
 | (s53f,l8f) =>
  if decide (s53f<(x26.length:Int)) then
   (P.idx x26 s53f).bind fun x37 =>
   (P.idx l8f s53f).bind fun x38 =>
   (vn .i64 (IntKind.i64.wrap (x38+x37)) (IntKind.i64.wrap (p1 - s53f))).bind fun x39 =>
   some (.inl (IntKind.i64.wrap (s53f+1),(l8f.set (s53f).toNat x39)))
  else
   some (.inr l8f)
def mS (p0:(List (List Int))) (p1:Int) (p2:Int):(Int×(List Int))→Option ((Int×(List Int))⊕(((List Int))⊕((List Int)×Int)))
 | (s37b,l8b) =>
  if decide (s37b<(p0.length:Int)) then
   (P.idx p0 s37b).bind fun x26 =>
   (if ((x26.length:Int) != p2) then
    some true
   else
    (jf x26 p1).bind fun r43 =>
    some (!r43)).bind fun s50j5 =>
   if s50j5 then
    some (.inr (.inr ([],1)))
   else
    (a8 (js p1 x26) (0,l8b)).bind fun l8fx =>
    some (.inl (IntKind.i64.wrap (s37b+1),l8fx))
  else
   some (.inr (.inl l8b))
def ly (p0:(List (List Int))) (p1:Int) (p2:Int):Option ((List Int)×Int) :=
 (if decide (p2<0) then
  some true
 else
  if decide (p2 > 100) then
   some true
  else
   if decide (p1<p2) then
    some true
   else
    if decide (p1 > 1099511627776) then
     some true
    else
     some (decide ((p0.length:Int) > 400))).bind fun s32j1 =>
 if s32j1 then
  some ([],1)
 else
  (L5 8 p2 p2 0).bind fun x3 =>
  (a8 (mS p0 p1 p2) (0,x3)).bind fun q=>match q with
  | (.inl l8bx) =>
   some (l8bx,0)
  | (.inr rb) =>
   some rb
def jD (p0:(List Int)):Option (List Int):=Ah p0
def tO (p0:(List Int)):Option ByteArray:=N5 p0
def kg (p0:(List Int)):Option (ByteArray) :=
 (tO p0).bind fun r1 =>
 some r1
def bU (p0:(List Int)):Option (List Int):=wX p0
def jg (p0:(List Int)):Option (Bool) :=
 (jD p0).bind fun r1 =>
 (bU r1).bind fun r2 =>
 (jd r2).bind fun r4 =>
 some (decide (((r4).length:Int)<(p0.length:Int)))
def kQ (p0:aE) (p1:(List Int)) (p2:(List (List Int))) (p3:(List Int)):(Int)→Option ((Int)⊕((Unit)⊕((List Int)×Int)))
 | s47b =>
  if decide (s47b<(p1.length:Int)) then
   (P.idx p1 s47b).bind fun x16 =>
   (P.idx p2 s47b).bind fun x17 =>
   (kg x17).bind fun r18 =>
   (P.idx p3 s47b).bind fun x19 =>
   (gU p0 x16 r18 0 x19).bind fun r20 =>
   if (!r20) then
    some (.inr (.inr ([],22)))
   else
    some (.inl (IntKind.i64.wrap (s47b+1)))
  else
   some (.inr (.inl ()))
def kf (p0:aE) (p1:(List Int)) (p2:(List (List Int))) (p3:(List Int)) (p4:Int) (p5:Int):Option ((List Int)×Int) :=
 (ly p2 p4 p5).bind fun r1 =>
 if (r1.2 != 0) then
  some ([],r1.2)
 else
  (if ((p1.length:Int) != (p2.length:Int)) then
   some true
  else
   some ((p3.length:Int) != (p2.length:Int))).bind fun s29j1 =>
  if s29j1 then
   some ([],2)
  else
   (jg p1).bind fun r5 =>
   if r5 then
    some ([],5)
   else
    (a8 (kQ p0 p1 p2 p3) 0).bind fun q=>match q with
    | (.inl _) =>
     some (r1.1,0)
    | (.inr rb) =>
     some rb
def wZ (l7a:(List Int)):(Int×Int)→Option ((Int×Int)⊕((Int×Int)))
 | (s9c,s10c) =>
  if decide (s10c<((l7a).length:Int)) then
   (P.idx l7a s10c).bind fun x26 =>
   if decide (x26≤s9c) then
    some (.inl (IntKind.i64.wrap (s9c+1),IntKind.i64.wrap (s10c+1)))
   else
    some (.inr (s9c,s10c))
  else
   some (.inr (s9c,s10c))
def wY (p0:(List Int)):(Int×(List Int)×(List Int))→Option ((Int×(List Int)×(List Int))⊕(((List Int))))
 | (s20a,l6a,l7a) =>
  if decide (s20a<(p0.length:Int)) then
   (P.idx p0 s20a).bind fun x20 =>
   (a8 (wZ l7a) (x20,0)).bind fun q=>match q with
   | (s9cx,s10cx) =>
    (iO 8 l6a [s9cx]).bind fun x28 =>
    (U6 8 l7a s10cx [s9cx]).bind fun x30 =>
    some (.inl (IntKind.i64.wrap (s20a+1),x28,x30))
  else
   some (.inr l6a)
def mX (p0:(List Int)) (p1:Int):Option ((List Int)×Int) :=
 (jf p0 p1).bind fun r1 =>
 if (!r1) then
  some ([],1)
 else
  (L5 8 0 (p0.length:Int) 0).bind fun x3 =>
  (a8 (wY p0) (0,x3,[])).bind fun l6ax =>
  some (l6ax,0)
def nc (p4:(List Int)) (r5:(List Int)×Int):(Int×(List Int))→Option ((Int×(List Int))⊕(((List Int))))
 | (s46a,l18a) =>
  if decide (s46a<(r5.1.length:Int)) then
   (P.idx r5.1 s46a).bind fun x13 =>
   (P.idx p4 x13).bind fun x14 =>
   (iO 8 l18a [x14]).bind fun x15 =>
   some (.inl (IntKind.i64.wrap (s46a+1),x15))
  else
   some (.inr l18a)
def iS (p0:aE) (p1:(List Int)) (p2:(List (List Int))) (p3:(List Int)) (p4:(List Int)) (p5:Int):Option ((List Int)×Int) :=
 (kf p0 p1 p2 p3 (p4.length:Int) p5).bind fun r1 =>
 if (r1.2 != 0) then
  some ([],r1.2)
 else
  (fT p4).bind fun r3 =>
  if r3 then
   some ([],5)
  else
   (mX r1.1 (p4.length:Int)).bind fun r5 =>
   (a8 (nc p4 r5) (0,[])).bind fun l18ax =>
   some (l18ax,0)
def lq:Option (Bool) :=
 (lz (aE.mk ([])) ([ByteArray.mk #[97],ByteArray.mk #[98],ByteArray.mk #[99]]) ([30,20,10]) ([7,8,9])).bind fun r2 =>
 (if (r2.2.2.2 != 0) then
  some true
 else
  if (r2.2.1 != 4) then
   some true
  else
   (gi r2.2.2.1 ([0,1,2])).bind fun r35 =>
   some (!r35)).bind fun s37j1 =>
 if s37j1 then
  some false
 else
  (gQ 19 21).bind fun r5 =>
  (gQ 21 22).bind fun r6 =>
  (jy r2.1 ([1]) 20 ([(az.mk 1 r5)]) ([])).bind fun r8 =>
  (if r8 then
   (jy r2.1 ([1,2]) 20 ([]) ([(bB.mk 2 0)])).bind fun r28 =>
   if r28 then
    (jy r2.1 ([1]) 21 ([]) ([(bB.mk 1 1)])).bind fun r31 =>
    some r31
   else
    some false
  else
   some false).bind fun s7j2 =>
  (jy r2.1 ([1]) 20 ([(az.mk 1 r5),(az.mk 1 r6)]) ([(bB.mk 1 2)])).bind fun r11 =>
  (er r2.1 4 60 24 ([1,1]) ([]) ([])).bind fun r13 =>
  (kg ([2,0])).bind fun r15 =>
  (jV r2.1 r15 0 5).bind fun r16 =>
  (iS r16.1 ([r16.2.1]) ([[2,0]]) ([5]) r2.2.2.1 2).bind fun r18 =>
  if s7j2 then
   if r11 then
    if (r13.2==5) then
     if (r16.2.2==0) then
      if (r18.2==0) then
       (gi r18.1 ([2,0])).bind fun r25 =>
       some r25
      else
       some false
     else
      some false
    else
     some false
   else
    some false
  else
   some false
def qz (p0:aE) (p1:Int):(Int)→Option ((Int)⊕((Unit)⊕(Bool)))
 | s5a =>
  (if decide (s5a<(p0.ah.length:Int)) then
   some (decide (s5a<p1))
  else
   some false).bind fun s15j3 =>
  if s15j3 then
   (P.idx p0.ah s5a).bind fun x9 =>
   if decide ((x9.cR.size:Int) > 100) then
    some (.inr (.inr false))
   else
    some (.inl (IntKind.i64.wrap (s5a+1)))
  else
   some (.inr (.inl ()))
def qy (p0:aE) (p1:Int):Option (Bool) :=
 (a8 (qz p0 p1) 0).bind fun q=>match q with
 | (.inl _) =>
  some (decide ((p0.ah.length:Int)≤p1))
 | (.inr ra) =>
  some ra
def ow (p0:aY) (p1:Int):Option (Bool) :=
 if decide ((p0.cr.aa.length:Int)≤p1) then
  some (decide ((p0.cq.aa.length:Int)≤p1))
 else
  some false
def qw (p0:dL) (p1:Int):Option (Bool) :=
 (ow p0.bx p1).bind fun r1 =>
 if r1 then
  (ow p0.aT p1).bind fun r3 =>
  some r3
 else
  some false
def qB (p0:(List aG)):(Int)→Option ((Int)⊕((Unit)⊕(Bool)))
 | s5a =>
  (if decide (s5a<(p0.length:Int)) then
   some (decide (s5a≤14))
  else
   some false).bind fun s14j3 =>
  if s14j3 then
   (P.idx p0 s5a).bind fun x10 =>
   if decide ((x10.eG.length:Int) > 14) then
    some (.inr (.inr false))
   else
    if decide ((x10.cR.size:Int) > 100) then
     some (.inr (.inr false))
    else
     some (.inl (IntKind.i64.wrap (s5a+1)))
  else
   some (.inr (.inl ()))
def qC (p1:(List az)):(Int)→Option ((Int)⊕((Unit)⊕(Bool)))
 | s6d =>
  (if decide (s6d<(p1.length:Int)) then
   some (decide (s6d≤14))
  else
   some false).bind fun s40j6 =>
  if s40j6 then
   (P.idx p1 s6d).bind fun x23 =>
   (qw x23.bD 4).bind fun r24 =>
   if (!r24) then
    some (.inr (.inr false))
   else
    some (.inl (IntKind.i64.wrap (s6d+1)))
  else
   some (.inr (.inl ()))
def qA (p0:(List aG)) (p1:(List az)):Option (Bool) :=
 (a8 (qB p0) 0).bind fun q=>match q with
 | (.inl _) =>
  (a8 (qC p1) 0).bind fun q=>match q with
  | (.inl _) =>
   if decide ((p0.length:Int)≤14) then
    some (decide ((p1.length:Int)≤14))
   else
    some false
  | (.inr rd) =>
   some rd
 | (.inr ra) =>
  some ra
def sQ (p0:aw) (p1:aw):(Int)→Option ((Int)⊕((Unit)⊕(Bool)))
 | s5b =>
  if decide (s5b<(p0.aa.length:Int)) then
   (P.idx p0.aa s5b).bind fun x9 =>
   (P.idx p1.aa s5b).bind fun x10 =>
   if (x9 != x10) then
    some (.inr (.inr false))
   else
    some (.inl (IntKind.i64.wrap (s5b+1)))
  else
   some (.inr (.inl ()))
def wU (p0:aw) (p1:aw):Option (Bool) :=
 (if (p0.ag != p1.ag) then
  some true
 else
  some ((p0.aa.length:Int) != (p1.aa.length:Int))).bind fun s19j1 =>
 if s19j1 then
  some false
 else
  (a8 (sQ p0 p1) 0).bind fun q=>match q with
  | (.inl _) =>
   some true
  | (.inr rb) =>
   some rb
def lW (p0:aw) (p1:aw):Option (Int) :=
 (dc p0).bind fun r1 =>
 (if (!r1) then
  some true
 else
  (dc p1).bind fun r9 =>
  if (!r9) then
   some true
  else
   (wU p0 p1).bind fun r11 =>
   some r11).bind fun s17j1 =>
 if s17j1 then
  some 0
 else
  if (p0.ag != p1.ag) then
   if decide (p0.ag<p1.ag) then
    some (-1)
   else
    some 1
  else
   (lX p0.aa p1.aa).bind fun r6 =>
   if (r6==(decide (p0.ag > 0))) then
    some (-1)
   else
    some 1
def lx (p0:aY):Option (Bool) :=
 (dc p0.cr).bind fun r1 =>
 (if (!r1) then
  some true
 else
  (dc p0.cq).bind fun r8 =>
  if (!r8) then
   some true
  else
   some (decide (p0.cq.ag<1))).bind fun s20j1 =>
 if s20j1 then
  some false
 else
  (ot p0.cr p0.cq).bind fun r4 =>
  (qv 1).bind fun r5 =>
  (lW r4.1 r5).bind fun r6 =>
  some (r6==0)
def tD (p0:aw) (p1:aw):Option (aw×Int) :=
 (dc p0).bind fun r1 =>
 (if (!r1) then
  some true
 else
  (dc p1).bind fun r7 =>
  some (!r7)).bind fun s13j1 =>
 if s13j1 then
  some ((aw.mk 0 ([])),1)
 else
  (jr p0.aa p1.aa).bind fun r4 =>
  (fH (IntKind.i64.wrap (p0.ag*p1.ag)) r4).bind fun r5 =>
  some (r5,0)
def l3 (p0:aY) (p1:aY):Option (Int) :=
 (lx p0).bind fun r1 =>
 (if (!r1) then
  some true
 else
  (lx p1).bind fun r8 =>
  some (!r8)).bind fun s16j1 =>
 if s16j1 then
  some 0
 else
  (tD p0.cr p1.cq).bind fun r4 =>
  (tD p1.cr p0.cq).bind fun r5 =>
  (lW r4.1 r5.1).bind fun r6 =>
  some r6
def tH (p0:dL):Option (Bool) :=
 (lx p0.bx).bind fun r1 =>
 if r1 then
  (lx p0.aT).bind fun r3 =>
  if r3 then
   (l3 p0.bx p0.aT).bind fun r5 =>
   some (decide (r5≤0))
  else
   some false
 else
  some false
def Hm (p0:dL) (p1:aY):Option (Bool) :=
 (tH p0).bind fun r1 =>
 if r1 then
  (lx p1).bind fun r3 =>
  if r3 then
   (l3 p0.bx p1).bind fun r5 =>
   if decide (r5≤0) then
    (l3 p1 p0.aT).bind fun r7 =>
    some (decide (r7≤0))
   else
    some false
  else
   some false
 else
  some false
def mE (p0:(List aG)) (p1:Int):(Int)→Option ((Int)⊕((Unit)⊕((List aG))))
 | s5a =>
  if decide (s5a<(p0.length:Int)) then
   (P.idx p0 s5a).bind fun x6 =>
   if (x6.bn==p1) then
    some (.inr (.inr ([x6])))
   else
    some (.inl (IntKind.i64.wrap (s5a+1)))
  else
   some (.inr (.inl ()))
def lp (p0:(List aG)) (p1:Int):Option ((List aG)) :=
 (a8 (mE p0 p1) 0).bind fun q=>match q with
 | (.inl _) =>
  some ([])
 | (.inr ra) =>
  some ra
def eT (p4:(List Int)) (p6:(List az)) (s19c:Int):(Int×(List az))→Option ((Int×(List az))⊕(((List az))))
 | (s21e,l20e) =>
  if decide (s21e≥0) then
   (P.idx p6 s21e).bind fun x41 =>
   (P.idx p4 s19c).bind fun x42 =>
   if (x41.bn==x42) then
    (iO 136 l20e [x41]).bind fun x44 =>
    some (.inl (IntKind.i64.wrap (s21e - 1),x44))
   else
    some (.inl (IntKind.i64.wrap (s21e - 1),l20e))
  else
   some (.inr l20e)
def dV (p0:aE) (p1:Int) (p2:Int) (p3:Int) (p4:(List Int)) (p5:(List aG)) (p6:(List az)):(Int×(List bB))→Option ((Int×(List bB))⊕(((List bB))⊕(Bool)))
 | (s19c,l18c) =>
  if decide (s19c<(p4.length:Int)) then
   (a8 (eT p4 p6 s19c) (IntKind.i64.wrap ((p6.length:Int) - 1),[])).bind fun l20ex =>
   (P.idx p4 s19c).bind fun x46 =>
   (lp p5 x46).bind fun r47 =>
   (er p0 p1 p2 p3 ([x46]) r47 l20ex).bind fun r49 =>
   if (r49.2 != 0) then
    some (.inr (.inr false))
   else
    if decide ((r49.1.length:Int) > 1) then
     some (.inr (.inr false))
    else
     (iO 16 l18c r49.1).bind fun x52 =>
     some (.inl (IntKind.i64.wrap (s19c+1),x52))
  else
   some (.inr (.inl l18c))
def eQ (p0:aE) (p1:Int) (p2:Int) (p3:Int) (p4:(List Int)) (p5:(List aG)) (p6:(List az)):Option (Bool) :=
 (lq).bind fun r1 =>
 (qy p0 40).bind fun r2 =>
 (if (!r2) then
  some true
 else
  if decide ((p4.length:Int) > 12) then
   some true
  else
   (qA p5 p6).bind fun r58 =>
   some (!r58)).bind fun s38j1 =>
 if s38j1 then
  some r1
 else
  (er p0 p1 p2 p3 p4 p5 p6).bind fun r5 =>
  if (r5.2 != 0) then
   (if r1 then
    some ((r5.1.length:Int)==0)
   else
    some false).bind fun s14j2 =>
   some s14j2
  else
   (a8 (dV p0 p1 p2 p3 p4 p5 p6) (0,[])).bind fun q=>match q with
   | (.inl l18cx) =>
    if r1 then
     (l4 r5.1 l18cx).bind fun r55 =>
     some r55
    else
     some false
   | (.inr rc) =>
    some rc
end Go.Proofs.YtpkahnkoecbndaaGreatDoor.P
namespace Go.Proofs.YtpkahnkoecbndaaGreatDoor.Am
open Go.RowKit Go.Proofs.YtpkahnkoecbndaaGreatDoor.P
set_option maxRecDepth 100000
set_option maxHeartbeats 4000000
set_option linter.unusedSimpArgs false
set_option linter.unusedVariables false
theorem XY:type_of% (And.intro @UF <| And.intro @CR <| And.intro @UG <| And.intro @UH <| And.intro @Sw <| And.intro @Sb <| And.intro @Sc <| And.intro @Ms <| And.intro @Sd <| And.intro @Hs <| And.intro @Ht <| And.intro @Hu <| And.intro @Hv <| And.intro @Se <| And.intro @Sf <| And.intro @Sg <| And.intro @Sh <| And.intro @Mt <| And.intro @Si <| And.intro @Mu <| And.intro @Sj <| And.intro @Mv <| And.intro @Sk <| And.intro @Hw <| And.intro @Sl <| And.intro @Sm <| And.intro @Sn <| And.intro @Sp <| And.intro @Sq <| And.intro @Sr <| And.intro @Hy <| And.intro @Ss <| And.intro @Su <| And.intro @Sv <| And.intro @Hz <| And.intro @Sx <| And.intro @Sy <| And.intro @OA <| And.intro @OB <| And.intro @OC <| And.intro @OD <| And.intro @OE <| And.intro @OF <| And.intro @OG <| And.intro @OH <| And.intro @OI <| And.intro @OJ <| And.intro @OK <| And.intro @OL <| And.intro @OM <| @ON):=And.intro @UF <| And.intro @CR <| And.intro @UG <| And.intro @UH <| And.intro @Sw <| And.intro @Sb <| And.intro @Sc <| And.intro @Ms <| And.intro @Sd <| And.intro @Hs <| And.intro @Ht <| And.intro @Hu <| And.intro @Hv <| And.intro @Se <| And.intro @Sf <| And.intro @Sg <| And.intro @Sh <| And.intro @Mt <| And.intro @Si <| And.intro @Mu <| And.intro @Sj <| And.intro @Mv <| And.intro @Sk <| And.intro @Hw <| And.intro @Sl <| And.intro @Sm <| And.intro @Sn <| And.intro @Sp <| And.intro @Sq <| And.intro @Sr <| And.intro @Hy <| And.intro @Ss <| And.intro @Su <| And.intro @Sv <| And.intro @Hz <| And.intro @Sx <| And.intro @Sy <| And.intro @OA <| And.intro @OB <| And.intro @OC <| And.intro @OD <| And.intro @OE <| And.intro @OF <| And.intro @OG <| And.intro @OH <| And.intro @OI <| And.intro @OJ <| And.intro @OK <| And.intro @OL <| And.intro @OM <| @ON
def ij:jH aw:=zC (kv (eI .i64) (oS (eI .i64))) (fun x=>(x.ag,x.aa)) (by rintro ⟨⟩ ⟨⟩ h; simpa using h)
theorem yI (x:aw):ij.cells x=[.int .i64 x.ag,.sl false false x.aa.length (ab (eI .i64) x.aa)]:=Eq.trans rfl rfl
theorem Bb:ij.size=2:=Eq.trans rfl rfl
theorem IN (x:aw):aw.mk x.ag x.aa=x:=Eq.trans rfl rfl
def lh:jH aY:=zC (kv ij ij) (fun x=>(x.cr,x.cq)) (by rintro ⟨⟩ ⟨⟩ h; simpa using h)
theorem vV (x:aY):lh.cells x=[.int .i64 x.cr.ag,.sl false false x.cr.aa.length (ab (eI .i64) x.cr.aa),.int .i64 x.cq.ag,.sl false false x.cq.aa.length (ab (eI .i64) x.cq.aa)]:=Eq.trans rfl rfl
theorem yJ:lh.size=4:=Eq.trans rfl rfl
theorem EU (x:aY):aY.mk x.cr x.cq=x:=Eq.trans rfl rfl
def lj:jH dL:=zC (kv lh lh) (fun x=>(x.bx,x.aT)) (by rintro ⟨⟩ ⟨⟩ h; simpa using h)
theorem vX (x:dL):lj.cells x=[.int .i64 x.bx.cr.ag,.sl false false x.bx.cr.aa.length (ab (eI .i64) x.bx.cr.aa),.int .i64 x.bx.cq.ag,.sl false false x.bx.cq.aa.length (ab (eI .i64) x.bx.cq.aa),.int .i64 x.aT.cr.ag,.sl false false x.aT.cr.aa.length (ab (eI .i64) x.aT.cr.aa),.int .i64 x.aT.cq.ag,.sl false false x.aT.cq.aa.length (ab (eI .i64) x.aT.cq.aa)]:=Eq.trans rfl rfl
theorem yL:lj.size=8:=Eq.trans rfl rfl
theorem EW (x:dL):dL.mk x.bx x.aT=x:=Eq.trans rfl rfl
def aF:jH az:=zC (kv (eI .i64) lj) (fun x=>(x.bn,x.bD)) (by rintro ⟨⟩ ⟨⟩ h; simpa using h)
theorem qS (x:az):aF.cells x=[.int .i64 x.bn,.int .i64 x.bD.bx.cr.ag,.sl false false x.bD.bx.cr.aa.length (ab (eI .i64) x.bD.bx.cr.aa),.int .i64 x.bD.bx.cq.ag,.sl false false x.bD.bx.cq.aa.length (ab (eI .i64) x.bD.bx.cq.aa),.int .i64 x.bD.aT.cr.ag,.sl false false x.bD.aT.cr.aa.length (ab (eI .i64) x.bD.aT.cr.aa),.int .i64 x.bD.aT.cq.ag,.sl false false x.bD.aT.cq.aa.length (ab (eI .i64) x.bD.aT.cq.aa)]:=Eq.trans rfl rfl
theorem rN:aF.size=9:=Eq.trans rfl rfl
theorem wb (x:az):az.mk x.bn x.bD=x:=Eq.trans rfl rfl
def Q4:jH MY:=zC (kv (oS lM) (kv (oS (eI .i64)) (oS (eI .i64)))) (fun x=>(x.z7,x.wh,x.wg)) (by rintro ⟨⟩ ⟨⟩ h; simpa using h)
theorem vW (x:MY):Q4.cells x=[.sl false false x.z7.length (ab lM x.z7),.sl false false x.wh.length (ab (eI .i64) x.wh),.sl false false x.wg.length (ab (eI .i64) x.wg)]:=Eq.trans rfl rfl
theorem yK:Q4.size=3:=Eq.trans rfl rfl
theorem EV (x:MY):MY.mk x.z7 x.wh x.wg=x:=Eq.trans rfl rfl
def aL:jH aG:=zC (kv (eI .i64) (kv (oS (eI .i64)) (kv lM (kv (eI .i64) (eI .i64))))) (fun x=>(x.bn,x.eG,x.cR,x.bd,x.bz)) (by rintro ⟨⟩ ⟨⟩ h; simpa using h)
theorem qT (x:aG):aL.cells x=[.int .i64 x.bn,.sl false false x.eG.length (ab (eI .i64) x.eG),.str x.cR,.int .i64 x.bd,.int .i64 x.bz]:=Eq.trans rfl rfl
theorem rO:aL.size=5:=Eq.trans rfl rfl
theorem wc (x:aG):aG.mk x.bn x.eG x.cR x.bd x.bz=x:=Eq.trans rfl rfl
def bp:jH bB:=zC (kv (eI .i64) (eI .i64)) (fun x=>(x.bn,x.ky)) (by rintro ⟨⟩ ⟨⟩ h; simpa using h)
theorem qR (x:bB):bp.cells x=[.int .i64 x.bn,.int .i64 x.ky]:=Eq.trans rfl rfl
theorem rM:bp.size=2:=Eq.trans rfl rfl
theorem wa (x:bB):bB.mk x.bn x.ky=x:=Eq.trans rfl rfl
def aq:jH ax:=zC (kv lM (kv (eI .i64) (kv (eI .i64) (kv (eI .i64) (eI .i64))))) (fun x=>(x.cR,x.bd,x.bz,x.dp,x.cK)) (by rintro ⟨⟩ ⟨⟩ h; simpa using h)
theorem ui (x:ax):aq.cells x=[.str x.cR,.int .i64 x.bd,.int .i64 x.bz,.int .i64 x.dp,.int .i64 x.cK]:=Eq.trans rfl rfl
theorem vY:aq.size=5:=Eq.trans rfl rfl
theorem Bm (x:ax):ax.mk x.cR x.bd x.bz x.dp x.cK=x:=Eq.trans rfl rfl
def eS:jH aE:=zC (oS aq) (fun x=>(x.ah)) (by rintro ⟨⟩ ⟨⟩ h; simpa using h)
theorem uj (x:aE):eS.cells x=[.sl false false x.ah.length (ab aq x.ah)]:=Eq.trans rfl rfl
theorem vZ:eS.size=1:=Eq.trans rfl rfl
theorem Bn (x:aE):aE.mk x.ah=x:=Eq.trans rfl rfl
def zY:jH jQ:=zC (kv eS (kv (eI .i64) (kv (eI .i64) (eI .i64)))) (fun x=>(x.Tq,x.xt,x.tz,x.tx)) (by rintro ⟨⟩ ⟨⟩ h; simpa using h)
theorem uk (x:jQ):zY.cells x=[.sl false false x.Tq.ah.length (ab aq x.Tq.ah),.int .i64 x.xt,.int .i64 x.tz,.int .i64 x.tx]:=Eq.trans rfl rfl
theorem v7:zY.size=4:=Eq.trans rfl rfl
theorem Bp (x:jQ):jQ.mk x.Tq x.xt x.tz x.tx=x:=Eq.trans rfl rfl
def EN:jH vG:=zC eS (fun x=>(x.z8)) (by rintro ⟨⟩ ⟨⟩ h; simpa using h)
theorem qU (x:vG):EN.cells x=[.sl false false x.z8.ah.length (ab aq x.z8.ah)]:=Eq.trans rfl rfl
theorem rP:EN.size=1:=Eq.trans rfl rfl
theorem we (x:vG):vG.mk x.z8=x:=Eq.trans rfl rfl
theorem Uh {l:List _} : (ab (eI .i64) l).length=l.length*1:=cW _ l
theorem Mw {l:List _} : (ab (eI .i64) l).take (l.length*1)=ab (eI .i64) l:=by
 have:=fM (eI .i64) l l.length
 rw [List.take_length] at this
 exact this
theorem Sz {l:List _} {i:Nat} {x:_} : (ab (eI .i64) (l.set i x)).take (l.length*1)=ab (eI .i64) (l.set i x):=by
 have:=@Mw (l.set i x)
 rwa [List.length_set] at this
theorem Ui {l:List _} : (ab (oS (eI .i64)) l).length=l.length*1:=cW _ l
theorem Mx {l:List _} : (ab (oS (eI .i64)) l).take (l.length*1)=ab (oS (eI .i64)) l:=by
 have:=fM (oS (eI .i64)) l l.length
 rw [List.take_length] at this
 exact this
theorem SA {l:List _} {i:Nat} {x:_} : (ab (oS (eI .i64)) (l.set i x)).take (l.length*1)=ab (oS (eI .i64)) (l.set i x):=by
 have:=@Mx (l.set i x)
 rwa [List.length_set] at this
theorem Uj {l:List _} : (ab yG l).length=l.length*1:=cW _ l
theorem My {l:List _} : (ab yG l).take (l.length*1)=ab yG l:=by
 have:=fM yG l l.length
 rw [List.take_length] at this
 exact this
theorem SB {l:List _} {i:Nat} {x:_} : (ab yG (l.set i x)).take (l.length*1)=ab yG (l.set i x):=by
 have:=@My (l.set i x)
 rwa [List.length_set] at this
theorem Uk {l:List _} : (ab lM l).length=l.length*1:=cW _ l
theorem Mz {l:List _} : (ab lM l).take (l.length*1)=ab lM l:=by
 have:=fM lM l l.length
 rw [List.take_length] at this
 exact this
theorem SC {l:List _} {i:Nat} {x:_} : (ab lM (l.set i x)).take (l.length*1)=ab lM (l.set i x):=by
 have:=@Mz (l.set i x)
 rwa [List.length_set] at this
theorem Ul {l:List _} : (ab bp l).length=l.length*2:=cW _ l
theorem MA {l:List _} : (ab bp l).take (l.length*2)=ab bp l:=by
 have:=fM bp l l.length
 rw [List.take_length] at this
 exact this
theorem SD {l:List _} {i:Nat} {x:_} : (ab bp (l.set i x)).take (l.length*2)=ab bp (l.set i x):=by
 have:=@MA (l.set i x)
 rwa [List.length_set] at this
theorem Um {l:List _} : (ab aF l).length=l.length*9:=cW _ l
theorem MB {l:List _} : (ab aF l).take (l.length*9)=ab aF l:=by
 have:=fM aF l l.length
 rw [List.take_length] at this
 exact this
theorem SE {l:List _} {i:Nat} {x:_} : (ab aF (l.set i x)).take (l.length*9)=ab aF (l.set i x):=by
 have:=@MB (l.set i x)
 rwa [List.length_set] at this
theorem Un {l:List _} : (ab aL l).length=l.length*5:=cW _ l
theorem MC {l:List _} : (ab aL l).take (l.length*5)=ab aL l:=by
 have:=fM aL l l.length
 rw [List.take_length] at this
 exact this
theorem SF {l:List _} {i:Nat} {x:_} : (ab aL (l.set i x)).take (l.length*5)=ab aL (l.set i x):=by
 have:=@MC (l.set i x)
 rwa [List.length_set] at this
theorem Uo {l:List _} : (ab lj l).length=l.length*8:=cW _ l
theorem MD {l:List _} : (ab lj l).take (l.length*8)=ab lj l:=by
 have:=fM lj l l.length
 rw [List.take_length] at this
 exact this
theorem SG {l:List _} {i:Nat} {x:_} : (ab lj (l.set i x)).take (l.length*8)=ab lj (l.set i x):=by
 have:=@MD (l.set i x)
 rwa [List.length_set] at this
theorem Up {l:List _} : (ab aq l).length=l.length*5:=cW _ l
theorem ME {l:List _} : (ab aq l).take (l.length*5)=ab aq l:=by
 have:=fM aq l l.length
 rw [List.take_length] at this
 exact this
theorem SH {l:List _} {i:Nat} {x:_} : (ab aq (l.set i x)).take (l.length*5)=ab aq (l.set i x):=by
 have:=@ME (l.set i x)
 rwa [List.length_set] at this
theorem Xh:type_of% (And.intro @vU <| And.intro @yH <| And.intro @Ba <| And.intro @xq <| And.intro @NF <| And.intro @A9 <| And.intro @EM <| And.intro @IJ <| And.intro @v8 <| And.intro @yI <| And.intro @Bb <| And.intro @vV <| And.intro @yJ <| And.intro @vX <| And.intro @yL <| And.intro @qS <| And.intro @rN <| And.intro @vW <| And.intro @yK <| And.intro @qT <| And.intro @rO <| And.intro @qR <| And.intro @rM <| And.intro @ui <| And.intro @vY <| And.intro @uj <| And.intro @vZ <| And.intro @uk <| And.intro @v7 <| And.intro @qU <| @rP):=And.intro @vU <| And.intro @yH <| And.intro @Ba <| And.intro @xq <| And.intro @NF <| And.intro @A9 <| And.intro @EM <| And.intro @IJ <| And.intro @v8 <| And.intro @yI <| And.intro @Bb <| And.intro @vV <| And.intro @yJ <| And.intro @vX <| And.intro @yL <| And.intro @qS <| And.intro @rN <| And.intro @vW <| And.intro @yK <| And.intro @qT <| And.intro @rO <| And.intro @qR <| And.intro @rM <| And.intro @ui <| And.intro @vY <| And.intro @uj <| And.intro @vZ <| And.intro @uk <| And.intro @v7 <| And.intro @qU <| @rP
theorem XX:type_of% (And.intro @aS <| And.intro @IN <| And.intro @EU <| And.intro @EW <| And.intro @wb <| And.intro @EV <| And.intro @wc <| And.intro @wa <| And.intro @Bm <| And.intro @Bn <| And.intro @Bp <| And.intro @we <| And.intro @Uh <| And.intro @Mw <| And.intro @Sz <| And.intro @Ui <| And.intro @Mx <| And.intro @SA <| And.intro @Uj <| And.intro @My <| And.intro @SB <| And.intro @Uk <| And.intro @Mz <| And.intro @SC <| And.intro @Ul <| And.intro @MA <| And.intro @SD <| And.intro @Um <| And.intro @MB <| And.intro @SE <| And.intro @Un <| And.intro @MC <| And.intro @SF <| And.intro @Uo <| And.intro @MD <| And.intro @SG <| And.intro @Up <| And.intro @ME <| @SH):=And.intro @aS <| And.intro @IN <| And.intro @EU <| And.intro @EW <| And.intro @wb <| And.intro @EV <| And.intro @wc <| And.intro @wa <| And.intro @Bm <| And.intro @Bn <| And.intro @Bp <| And.intro @we <| And.intro @Uh <| And.intro @Mw <| And.intro @Sz <| And.intro @Ui <| And.intro @Mx <| And.intro @SA <| And.intro @Uj <| And.intro @My <| And.intro @SB <| And.intro @Uk <| And.intro @Mz <| And.intro @SC <| And.intro @Ul <| And.intro @MA <| And.intro @SD <| And.intro @Um <| And.intro @MB <| And.intro @SE <| And.intro @Un <| And.intro @MC <| And.intro @SF <| And.intro @Uo <| And.intro @MD <| And.intro @SG <| And.intro @Up <| And.intro @ME <| @SH
theorem w:type_of% (And.intro @v <| And.intro @XY <| And.intro @Xh <| And.intro @XX <| @vi):=And.intro @v <| And.intro @XY <| And.intro @Xh <| And.intro @XX <| @vi
theorem cl:type_of% (And.intro @Xh <| And.intro @List.cons_append.{0} <| And.intro @List.nil_append.{0} <| And.intro @List.length_nil.{0} <| And.intro @List.drop_succ_cons.{0} <| @List.drop_zero.{0}):=And.intro @Xh <| And.intro @List.cons_append.{0} <| And.intro @List.nil_append.{0} <| And.intro @List.length_nil.{0} <| And.intro @List.drop_succ_cons.{0} <| @List.drop_zero.{0}
noncomputable def eP:=eZ (eg (aI .i64) (ef (aI .i64))) (fun x:Int×Int=>dZ x.1 x.2) (fun r:Bool => .clean (.bool r))
theorem gH (p0:Int) (p1:Int):eP none [.int .i64 p0,.int .i64 p1]=(dZ p0 p1).map fun r:Bool=>(.clean (.bool r),none):=aR _ _ _ (p0,p1)
theorem B7 (p0:Int) (p1:Int) (r:Bool) (hh:dZ p0 p1=some r):aX .clean tab aB FU Tryz.f91 none [.int .i64 p0,.int .i64 p1]=some (.clean (.bool r),none):=by
 refine ay rfl Tryz.ntmps91 Tryz.results91 ?_
 unfold dZ at hh
 try simp only [w,seval,-Int.reduceToNat]
 refine bK (fun hb1 => ?_) (fun hb1 => ?_)
 ·replace hh:=ak hb1 hh
  cases hh
  try simp only [w,seval,-Int.reduceToNat]
 ·replace hh:=aj hb1 hh
  cases hh
  try simp only [w,seval,-Int.reduceToNat]
theorem mh:bW Tryz.prog 91 eP:=bW.of (mode := .clean) tok b7.none mixed Tryz.func91 (by kernel_rfl) ⟨by kernel_rfl,by kernel_rfl⟩ (fun _=>Nat.le_of_ble_eq_true (by kernel_rfl)) (fun x r h=>B7 x.1 x.2 r h)
noncomputable def jk:=eZ (ef (dO aq)) (fun x:ax=>jh x) (fun r:Bool => .clean (.bool r))
theorem mM (p0_0:ByteArray) (p0_1:Int) (p0_2:Int) (p0_3:Int) (p0_4:Int):jk none [.agg [.str p0_0,.int .i64 p0_1,.int .i64 p0_2,.int .i64 p0_3,.int .i64 p0_4]]=(jh (ax.mk p0_0 p0_1 p0_2 p0_3 p0_4)).map fun r:Bool=>(.clean (.bool r),none):=aR _ _ _ ((ax.mk p0_0 p0_1 p0_2 p0_3 p0_4))
noncomputable def qf:Env:=(Am.ext aB 91 false eP)
theorem Dq:b7 Tryz.prog qf:=(b7.none.add mh false)
theorem uA:qf=(Am.ext aB 91 false eP):=Eq.trans rfl rfl
theorem dq:type_of% (And.intro @w <| And.intro @gH <| @uA):=And.intro @w <| And.intro @gH <| @uA
theorem G1 (p0:ax) (r:Bool) (hh:jh p0=some r):aX .clean tab qf FU Tryz.f51 none [.agg [.str p0.cR,.int .i64 p0.bd,.int .i64 p0.bz,.int .i64 p0.dp,.int .i64 p0.cK]]=some (.clean (.bool r),none):=by
 refine ay rfl Tryz.ntmps51 Tryz.results51 ?_
 unfold jh at hh
 try simp only [dq,seval,-Int.reduceToNat]
 obtain ⟨o1,ho1,hh⟩:=ae hh
 refine bV 0 (fun s t H e=>match s with | s3j1=>∃ v1j1:Nat,t 1 = .ptr 1 v1j1 0∧t 3 = .bool s3j1∧H 1=some ⟨v1j1,87,[.str p0.cR,.int .i64 p0.bd,.int .i64 p0.bz,.int .i64 p0.dp,.int .i64 p0.cK],false,false,false⟩) (fun s=>s=o1) ?_ ?_
 ·rintro s3j1 t H e ⟨v1j1,t1j1,t3j1,H1j1⟩ rfl
  try dsimp only at hh
  try simp only [dq,seval,-Int.reduceToNat,t1j1,t3j1,H1j1]
  refine bK (fun hb2 => ?_) (fun hb2 => ?_)
  ·replace hh:=ak hb2 hh
   try simp only [dq,seval,-Int.reduceToNat,t1j1,t3j1,H1j1]
   refine bK (fun hb3 => ?_) (fun hb3 => ?_)
   ·replace hh:=ak hb3 hh
    obtain ⟨r4,hr4,hh⟩:=ae hh
    try simp only [dq,seval,-Int.reduceToNat,t1j1,t3j1,H1j1,hr4]
    refine bK (fun hb5 => ?_) (fun hb5 => ?_)
    ·replace hh:=ak hb5 hh
     obtain ⟨r6,hr6,hh⟩:=ae hh
     cases hh
     try simp only [dq,seval,-Int.reduceToNat,t1j1,t3j1,H1j1,hr4,hr6]
    ·replace hh:=aj hb5 hh
     cases hh
     try simp only [dq,seval,-Int.reduceToNat,t1j1,t3j1,H1j1,hr4]
   ·replace hh:=aj hb3 hh
    cases hh
    try simp only [dq,seval,-Int.reduceToNat,t1j1,t3j1,H1j1]
  ·replace hh:=aj hb2 hh
   cases hh
   try simp only [dq,seval,-Int.reduceToNat,t1j1,t3j1,H1j1]
 ·
  clear hh
  have hh:=ho1
  try simp only [dq,seval,-Int.reduceToNat]
  refine bK (fun hb7 => ?_) (fun hb7 => ?_)
  ·replace hh:=ak hb7 hh
   cases hh
   try simp only [dq,seval,-Int.reduceToNat]
   rw [an]
   refine ⟨_,rfl,?_⟩
   refine ⟨0,?_,?_,?_⟩
   all_goals (first | rfl | (simp only [dq,seval,-Int.reduceToNat] <;> rfl))
  ·replace hh:=aj hb7 hh
   cases hh
   try simp only [dq,seval,-Int.reduceToNat]
   rw [an]
   refine ⟨_,rfl,?_⟩
   refine ⟨0,?_,?_,?_⟩
   all_goals (first | rfl | (simp only [dq,seval,-Int.reduceToNat] <;> rfl))
theorem uE:bW Tryz.prog 51 jk:=bW.of (mode := .clean) tok Dq mixed Tryz.func51 (by kernel_rfl) ⟨by kernel_rfl,by kernel_rfl⟩ (fun _=>Nat.le_of_ble_eq_true (by kernel_rfl)) (fun x r h=>G1 x r h)
noncomputable def mA:=eZ (eg (ie aq) (eg (aI .i64) (ef (aI .i64)))) (fun x:(List ax)×Int×Int=>jW x.1 x.2.1 x.2.2) (fun r:ax×Int => .clean (.tup [.agg [.str r.1.cR,.int .i64 r.1.bd,.int .i64 r.1.bz,.int .i64 r.1.dp,.int .i64 r.1.cK],.int .i64 r.2]))
theorem wT (p0:(List ax)) (p1:Int) (p2:Int):mA none [.sl false false p0.length (ab aq p0),.int .i64 p1,.int .i64 p2]=(jW p0 p1 p2).map fun r:ax×Int=>(.clean (.tup [.agg [.str r.1.cR,.int .i64 r.1.bd,.int .i64 r.1.bz,.int .i64 r.1.dp,.int .i64 r.1.cK],.int .i64 r.2]),none):=aR _ _ _ (p0,p1,p2)
noncomputable def qg:Env:=(Am.ext aB 91 false eP)
theorem Dr:b7 Tryz.prog qg:=(b7.none.add mh false)
theorem uB:qg=(Am.ext aB 91 false eP):=Eq.trans rfl rfl
theorem da:type_of% (And.intro @w <| And.intro @gH <| @uB):=And.intro @w <| And.intro @gH <| @uB
theorem G2 (p0:(List ax)) (p1:Int) (p2:Int) (r:ax×Int) (hh:jW p0 p1 p2=some r):aX .clean tab qg FU Tryz.f67 none [.sl false false p0.length (ab aq p0),.int .i64 p1,.int .i64 p2]=some (.clean (.tup [.agg [.str r.1.cR,.int .i64 r.1.bd,.int .i64 r.1.bz,.int .i64 r.1.dp,.int .i64 r.1.cK],.int .i64 r.2]),none):=by
 refine ay rfl Tryz.ntmps67 Tryz.results67 ?_
 unfold jW at hh
 obtain ⟨r1,hr1,hh⟩:=ae hh
 try simp only [da,seval,-Int.reduceToNat,hr1]
 obtain ⟨o2,ho2,hh⟩:=ae hh
 refine bV 0 (fun s t H e=>match s with | s24j1=>∃ v6j1:Nat,t 0 = .sl false false p0.length (ab aq p0)∧t 1 = .int .i64 p1∧t 2 = .int .i64 p2∧t 6 = .ptr 6 v6j1 0∧t 24 = .bool s24j1∧H 6=some ⟨v6j1,87,[.str (ByteArray.mk #[]),.int .i64 0,.int .i64 0,.int .i64 0,.int .i64 0],false,false,false⟩) (fun s=>s=o2) ?_ ?_
 ·rintro s24j1 t H e ⟨v6j1,t0j1,t1j1,t2j1,t6j1,t24j1,H6j1⟩ rfl
  try dsimp only at hh
  try simp only [da,seval,-Int.reduceToNat,hr1,t0j1,t1j1,t2j1,t6j1,t24j1,H6j1]
  refine ai (fun hb3 => ?_) (fun hb3 => ?_)
  ·replace hh:=ak hb3 hh
   cases hh
   try simp only [da,seval,-Int.reduceToNat,hr1,t0j1,t1j1,t2j1,t6j1,t24j1,H6j1]
  ·replace hh:=aj hb3 hh
   obtain ⟨x4,hx4,hh⟩:=ae hh
   have bx4:=aJ hx4
   have ax4:=aC aq hx4
   have fx4:=aA aq hx4
   simp only [cl] at ax4 fx4
   skip
   obtain ⟨x5,hx5,hh⟩:=ae hh
   have bx5:=aJ hx5
   have ax5:=aC aq hx5
   have fx5:=aA aq hx5
   simp only [cl] at ax5 fx5
   skip
   try simp only [da,seval,-Int.reduceToNat,hr1,t0j1,t1j1,t2j1,t6j1,t24j1,H6j1,bx4,ax4,fx4,bx5,ax5,fx5]
   refine cI (by kernel_rfl) ?_
   try simp only [da,seval,-Int.reduceToNat,hr1,t0j1,t1j1,t2j1,t6j1,t24j1,H6j1,bx4,ax4,fx4,bx5,ax5,fx5]
   refine bj (fun hb6 => ?_) (fun hb6 => ?_)
   ·replace hh:=ak hb6 hh
    cases hh
    try simp only [da,seval,-Int.reduceToNat,hr1,t0j1,t1j1,t2j1,t6j1,t24j1,H6j1,bx4,ax4,fx4,bx5,ax5,fx5]
   ·replace hh:=aj hb6 hh
    try simp only [da,seval,-Int.reduceToNat,hr1,t0j1,t1j1,t2j1,t6j1,t24j1,H6j1,bx4,ax4,fx4,bx5,ax5,fx5]
    refine ai (fun hb7 => ?_) (fun hb7 => ?_)
    ·replace hh:=ak hb7 hh
     cases hh
     try simp only [da,seval,-Int.reduceToNat,hr1,t0j1,t1j1,t2j1,t6j1,t24j1,H6j1,bx4,ax4,fx4,bx5,ax5,fx5]
    ·replace hh:=aj hb7 hh
     cases hh
     try simp only [da,seval,-Int.reduceToNat,hr1,t0j1,t1j1,t2j1,t6j1,t24j1,H6j1,bx4,ax4,fx4,bx5,ax5,fx5]
 ·
  clear hh
  have hh:=ho2
  try simp only [da,seval,-Int.reduceToNat,hr1]
  refine bj (fun hb8 => ?_) (fun hb8 => ?_)
  ·replace hh:=ak hb8 hh
   cases hh
   try simp only [da,seval,-Int.reduceToNat,hr1]
   rw [an]
   refine ⟨_,rfl,?_⟩
   refine ⟨0,?_,?_,?_,?_,?_,?_⟩
   all_goals (first | rfl | (simp only [da,seval,-Int.reduceToNat,hr1] <;> rfl))
  ·replace hh:=aj hb8 hh
   obtain ⟨r9,hr9,hh⟩:=ae hh
   cases hh
   try simp only [da,seval,-Int.reduceToNat,hr1,hr9]
   rw [an]
   refine ⟨_,rfl,?_⟩
   refine ⟨0,?_,?_,?_,?_,?_,?_⟩
   all_goals (first | rfl | (simp only [da,seval,-Int.reduceToNat,hr1,hr9] <;> rfl))
theorem DO:bW Tryz.prog 67 mA:=bW.of (mode := .clean) tok Dr mixed Tryz.func67 (by kernel_rfl) ⟨by kernel_rfl,by kernel_rfl⟩ (fun _=>Nat.le_of_ble_eq_true (by kernel_rfl)) (fun x r h=>G2 x.1 x.2.1 x.2.2 r h)
noncomputable def dh:=eZ (ef (dO eS)) (fun x:aE=>dI x) (fun r:Bool => .clean (.bool r))
theorem dy (p0_0:(List ax)):dh none [.agg [.sl false false p0_0.length (ab aq p0_0)]]=(dI (aE.mk p0_0)).map fun r:Bool=>(.clean (.bool r),none):=aR _ _ _ ((aE.mk p0_0))
noncomputable def oM:Env:=(Am.ext (Am.ext aB 51 false jk) 67 false mA)
theorem BG:b7 Tryz.prog oM:=((b7.none.add uE false).add DO false)
theorem ss:oM=(Am.ext (Am.ext aB 51 false jk) 67 false mA):=Eq.trans rfl rfl
theorem bN:type_of% (And.intro @w <| And.intro @mM <| And.intro @wT <| @ss):=And.intro @w <| And.intro @mM <| And.intro @wT <| @ss
theorem DF (p0:aE) (r:Bool) (hh:dI p0=some r):aX .clean tab oM FU Tryz.f39 none [.agg [.sl false false p0.ah.length (ab aq p0.ah)]]=some (.clean (.bool r),none):=by
 refine ay rfl Tryz.ntmps39 Tryz.results39 ?_
 unfold dI at hh
 try simp only [bN,seval,-Int.reduceToNat]
 refine ai (fun hb1 => ?_) (fun hb1 => ?_)
 ·replace hh:=ak hb1 hh
  cases hh
  try simp only [bN,seval,-Int.reduceToNat]
 ·replace hh:=aj hb1 hh
  try simp only [bN,seval,-Int.reduceToNat]
  obtain ⟨o11,ho11,hh⟩:=ae hh
  refine aD (fun s t H e=>match s with | s14a=>∃ v1a:Nat,t 1 = .ptr 1 v1a 0∧t 12 = .sl false false p0.ah.length (ab aq p0.ah)∧t 13 = .int .i64 (p0.ah.length:Int)∧t 14 = .int .i64 s14a∧H 1=some ⟨v1a,24,[.sl false false p0.ah.length (ab aq p0.ah)],false,false,false⟩) (fun o x t H e=>match o with | (.inl _)=>x = .exit 0 | (.inr r)=>x = .ret∧gG .clean tab none [.tmp 2] ⟨t,H,e⟩=some (.clean (.bool r),none)) ho11 ?_ ?_ ?_
  ·
   refine ⟨0,?_,?_,?_,?_,?_⟩
   all_goals (first | rfl | (simp only [bN,seval,-Int.reduceToNat] <;> rfl))
  ·rintro s14a t H e ⟨v1a,t1a,t12a,t13a,t14a,H1a⟩ c hh
   simp only [kR] at hh
   try simp only [bN,seval,-Int.reduceToNat,t1a,t12a,t13a,t14a,H1a]
   refine ai (fun hb12 => ?_) (fun hb12 => ?_)
   ·replace hh:=ak hb12 hh
    obtain ⟨x13,hx13,hh⟩:=ae hh
    have bx13:=aJ hx13
    have ax13:=aC aq hx13
    have fx13:=aA aq hx13
    simp only [cl] at ax13 fx13
    skip
    obtain ⟨r14,hr14,hh⟩:=ae hh
    try simp only [bN,seval,-Int.reduceToNat,t1a,t12a,t13a,t14a,H1a,bx13,ax13,fx13,hr14]
    refine ai (fun hb15 => ?_) (fun hb15 => ?_)
    ·replace hh:=ak hb15 hh
     cases hh
     try simp only [bN,seval,-Int.reduceToNat,t1a,t12a,t13a,t14a,H1a,bx13,ax13,fx13,hr14]
     rw [aK]
     refine ⟨_,rfl,?_⟩
     refine ⟨v1a,?_,?_,?_,?_,?_⟩
     all_goals (first | rfl | (simp only [bN,seval,-Int.reduceToNat,t1a,t12a,t13a,t14a,H1a,bx13,ax13,fx13,hr14] <;> rfl))
    ·replace hh:=aj hb15 hh
     obtain ⟨x16,hx16,hh⟩:=ae hh
     obtain ⟨q17a,q17b,q17c,q17d,q17e⟩:=CO aq hx16
     simp only [cl] at q17e
     obtain ⟨r18,hr18,hh⟩:=ae hh
     try simp only [bN,seval,-Int.reduceToNat,t1a,t12a,t13a,t14a,H1a,bx13,ax13,fx13,hr14,q17a,q17b,q17c,q17d,q17e,hr18]
     refine cI (by kernel_rfl) ?_
     try simp only [bN,seval,-Int.reduceToNat,t1a,t12a,t13a,t14a,H1a,bx13,ax13,fx13,hr14,q17a,q17b,q17c,q17d,q17e,hr18]
     refine bj (fun hb19 => ?_) (fun hb19 => ?_)
     ·replace hh:=ak hb19 hh
      cases hh
      try simp only [bN,seval,-Int.reduceToNat,t1a,t12a,t13a,t14a,H1a,bx13,ax13,fx13,hr14,q17a,q17b,q17c,q17d,q17e,hr18]
      rw [dQ]
      refine ⟨_,rfl,?_⟩
      refine ⟨rfl,?_⟩
      try simp only [bN,seval,-Int.reduceToNat,t1a,t12a,t13a,t14a,H1a,bx13,ax13,fx13,hr14,q17a,q17b,q17c,q17d,q17e,hr18]
     ·replace hh:=aj hb19 hh
      try simp only [bN,seval,-Int.reduceToNat,t1a,t12a,t13a,t14a,H1a,bx13,ax13,fx13,hr14,q17a,q17b,q17c,q17d,q17e,hr18]
      refine ai (fun hb20 => ?_) (fun hb20 => ?_)
      ·replace hh:=ak hb20 hh
       cases hh
       try simp only [bN,seval,-Int.reduceToNat,t1a,t12a,t13a,t14a,H1a,bx13,ax13,fx13,hr14,q17a,q17b,q17c,q17d,q17e,hr18]
       rw [dQ]
       refine ⟨_,rfl,?_⟩
       refine ⟨rfl,?_⟩
       try simp only [bN,seval,-Int.reduceToNat,t1a,t12a,t13a,t14a,H1a,bx13,ax13,fx13,hr14,q17a,q17b,q17c,q17d,q17e,hr18]
      ·replace hh:=aj hb20 hh
       cases hh
       try simp only [bN,seval,-Int.reduceToNat,t1a,t12a,t13a,t14a,H1a,bx13,ax13,fx13,hr14,q17a,q17b,q17c,q17d,q17e,hr18]
       rw [aK]
       refine ⟨_,rfl,?_⟩
       refine ⟨v1a,?_,?_,?_,?_,?_⟩
       all_goals (first | rfl | (simp only [bN,seval,-Int.reduceToNat,t1a,t12a,t13a,t14a,H1a,bx13,ax13,fx13,hr14,q17a,q17b,q17c,q17d,q17e,hr18] <;> rfl))
   ·replace hh:=aj hb12 hh
    cases hh
    try simp only [bN,seval,-Int.reduceToNat,t1a,t12a,t13a,t14a,H1a]
    rw [bk]
    refine ⟨_,rfl,?_⟩
    exact rfl
  ·rintro x t H e hx
   rcases o11 with _ | ra
   ·
    dsimp only at hx hh
    subst hx
    cases hh
    try simp only [bN,seval,-Int.reduceToNat]
   ·
    dsimp only at hx hh
    obtain ⟨rfl,hE⟩:=hx
    cases hh
    try simp only [bo,bf,bG,cY,cX]
    exact hE
theorem jb:bW Tryz.prog 39 dh:=bW.of (mode := .clean) tok BG mixed Tryz.func39 (by kernel_rfl) ⟨by kernel_rfl,by kernel_rfl⟩ (fun _=>Nat.le_of_ble_eq_true (by kernel_rfl)) (fun x r h=>DF x r h)
noncomputable def nX:=eZ (eg S7 (eg (aI .i64) (ef (aI .i64)))) (fun x:ByteArray×Int×Int=>mY x.1 x.2.1 x.2.2) (fun r:ax => .clean (.agg [.str r.cR,.int .i64 r.bd,.int .i64 r.bz,.int .i64 r.dp,.int .i64 r.cK]))
theorem zd (p0:ByteArray) (p1:Int) (p2:Int):nX none [.str p0,.int .i64 p1,.int .i64 p2]=(mY p0 p1 p2).map fun r:ax=>(.clean (.agg [.str r.cR,.int .i64 r.bd,.int .i64 r.bz,.int .i64 r.dp,.int .i64 r.cK]),none):=aR _ _ _ (p0,p1,p2)
theorem JT (p0:ByteArray) (p1:Int) (p2:Int) (r:ax) (hh:mY p0 p1 p2=some r):aX .clean tab aB FU Tryz.f62 none [.str p0,.int .i64 p1,.int .i64 p2]=some (.clean (.agg [.str r.cR,.int .i64 r.bd,.int .i64 r.bz,.int .i64 r.dp,.int .i64 r.cK]),none):=by
 refine ay rfl Tryz.ntmps62 Tryz.results62 ?_
 unfold mY at hh
 cases hh
 try simp only [w,seval,-Int.reduceToNat]
theorem Hg:bW Tryz.prog 62 nX:=bW.of (mode := .clean) tok b7.none mixed Tryz.func62 (by kernel_rfl) ⟨by kernel_rfl,by kernel_rfl⟩ (fun _=>Nat.le_of_ble_eq_true (by kernel_rfl)) (fun x r h=>JT x.1 x.2.1 x.2.2 r h)
theorem xN (r:(List ax)) (hh:dY []=some r):aX (.fresh 87 5) tab aB FU Tryz.f63 none [.sl true true 0 []]=some (.fresh 87 5 r.length (ab aq r),none):=by
 unfold dY at hh
 obtain ⟨qa,qb,qc⟩:=pI hh
 subst qa
 refine ay rfl Tryz.ntmps63 Tryz.results63 ?_
 simp only [w,seval,-Int.reduceToNat,Nat.lt_irrefl]
theorem xO (r:(List ax)) (hh:dY []=some r):aX (.fresh 87 5) tab aB FU Tryz.f63 none [.sl true false 0 []]=some (.fresh 87 5 r.length (ab aq r),none):=by
 unfold dY at hh
 obtain ⟨qa,qb,qc⟩:=pI hh
 subst qa
 refine ay rfl Tryz.ntmps63 Tryz.results63 ?_
 simp only [w,seval,-Int.reduceToNat,Nat.lt_irrefl]
theorem xP (p0 r:(List ax)) (hp:0<p0.length) (hh:dY p0=some r):aX (.fresh 87 5) tab aB FU Tryz.f63 none [.sl false false p0.length (ab aq p0)]=some (.fresh 87 5 r.length (ab aq r),none):=by
 unfold dY at hh
 have hz : ¬ p0.length=0:=by omega
 obtain ⟨qa,qb,qc⟩:=pI hh
 subst qa
 refine ay rfl Tryz.ntmps63 Tryz.results63 ?_
 simp only [w,seval,-Int.reduceToNat,hp,hz,qb,qc]
noncomputable def gE:=eZ (ef (ie aq)) (fun x:(List ax)=>dY x) (fun r:(List ax) => .fresh 87 5 r.length (ab aq r))
theorem kK (p0:(List ax)):gE none [.sl false false p0.length (ab aq p0)]=(dY p0).map fun r:(List ax)=>(.fresh 87 5 r.length (ab aq r),none):=aR _ _ _ p0
theorem qZ:bW Tryz.prog 63 gE:=bW.Ut (mode:=(.fresh 87 5)) tok b7.none mixed Tryz.func63 (by kernel_rfl) ⟨by kernel_rfl,by kernel_rfl⟩ (Nat.le_of_ble_eq_true (by kernel_rfl)) xN xO xP
noncomputable def NP:List D→List D→Option (List D):=pd aq (ef (dO aq)) K8
theorem VV:Ak Tryz.prog 64 ⟨87,5,48,NP⟩:=UP aq ax.mk (fun _ _ _ _ _=>rfl) (fun x=>⟨_,_,_,_,_,rfl⟩)
theorem vr (l:List ax) (p1_0:ByteArray) (p1_1:Int) (p1_2:Int) (p1_3:Int) (p1_4:Int) {z:List ax} (h:pt l (ax.mk p1_0 p1_1 p1_2 p1_3 p1_4)=some z) : ∃ cs,NP (ab aq l) [.agg [.str p1_0,.int .i64 p1_1,.int .i64 p1_2,.int .i64 p1_3,.int .i64 p1_4]]=some cs∧ab aq l++cs=ab aq z∧l.length+1=z.length∧z.length*48≤140737488355328:=I7 aq (A:=(ef (dO aq))) (F:=K8) (b:=(ax.mk p1_0 p1_1 p1_2 p1_3 p1_4)) h
theorem tT (r:(List Int)) (hh:bA []=some r):aX (.fresh 3 1) tab aB FU Tryz.f65 none [.sl true true 0 []]=some (.fresh 3 1 r.length (ab (eI .i64) r),none):=by
 unfold bA at hh
 obtain ⟨qa,qb,qc⟩:=pI hh
 subst qa
 refine ay rfl Tryz.ntmps65 Tryz.results65 ?_
 simp only [w,seval,-Int.reduceToNat,Nat.lt_irrefl]
theorem tU (r:(List Int)) (hh:bA []=some r):aX (.fresh 3 1) tab aB FU Tryz.f65 none [.sl true false 0 []]=some (.fresh 3 1 r.length (ab (eI .i64) r),none):=by
 unfold bA at hh
 obtain ⟨qa,qb,qc⟩:=pI hh
 subst qa
 refine ay rfl Tryz.ntmps65 Tryz.results65 ?_
 simp only [w,seval,-Int.reduceToNat,Nat.lt_irrefl]
theorem tV (p0 r:(List Int)) (hp:0<p0.length) (hh:bA p0=some r):aX (.fresh 3 1) tab aB FU Tryz.f65 none [.sl false false p0.length (ab (eI .i64) p0)]=some (.fresh 3 1 r.length (ab (eI .i64) r),none):=by
 unfold bA at hh
 have hz : ¬ p0.length=0:=by omega
 obtain ⟨qa,qb,qc⟩:=pI hh
 subst qa
 refine ay rfl Tryz.ntmps65 Tryz.results65 ?_
 simp only [w,seval,-Int.reduceToNat,hp,hz,qb,qc]
noncomputable def cv:=eZ (ef (ie (eI .i64))) (fun x:(List Int)=>bA x) (fun r:(List Int) => .fresh 3 1 r.length (ab (eI .i64) r))
theorem dt (p0:(List Int)):cv none [.sl false false p0.length (ab (eI .i64) p0)]=(bA p0).map fun r:(List Int)=>(.fresh 3 1 r.length (ab (eI .i64) r),none):=aR _ _ _ p0
theorem hZ:bW Tryz.prog 65 cv:=bW.Ut (mode:=(.fresh 3 1)) tok b7.none mixed Tryz.func65 (by kernel_rfl) ⟨by kernel_rfl,by kernel_rfl⟩ (Nat.le_of_ble_eq_true (by kernel_rfl)) tT tU tV
noncomputable def NQ:List D→List D→Option (List D):=pd aq (eg (aI .i64) (ef (aI .i64))) (Cm ax.mk (fun x=>x.bd) (fun x=>x.bz))
theorem VW:Ak Tryz.prog 66 ⟨87,5,48,NQ⟩:=TH aq ax.mk (fun _ _ _ _ _=>rfl) (fun x=>⟨_,_,_,_,_,rfl⟩) (fun x=>x.bd) (fun x=>x.bz) (fun _ _ _ _ _=>rfl) (fun _ _ _ _ _=>rfl)
theorem tW (l:List ax) (p1:Int) (p2:Int) {z:List ax} (h:oz l p1 p2=some z) : ∃ cs,NQ (ab aq l) [.int .i64 p1,.int .i64 p2]=some cs∧ab aq l++cs=ab aq z∧l.length+1=z.length∧z.length*48≤140737488355328:=I7 aq (A:=(eg (aI .i64) (ef (aI .i64)))) (F:=(Cm ax.mk (fun x=>x.bd) (fun x=>x.bz))) (b:=(p1,p2)) h
noncomputable def mv:=eZ (eg (dO eS) (eg (ie lM) (eg (ie (eI .i64)) (ef (ie (eI .i64)))))) (fun x:aE×(List ByteArray)×(List Int)×(List Int)=>lz x.1 x.2.1 x.2.2.1 x.2.2.2) (fun r:aE×Int×(List Int)×Int => .clean (.tup [.agg [.sl false false r.1.ah.length (ab aq r.1.ah)],.int .i64 r.2.1,.sl false false r.2.2.1.length (ab (eI .i64) r.2.2.1),.int .i64 r.2.2.2]))
theorem qu (p0_0:(List ax)) (p1:(List ByteArray)) (p2:(List Int)) (p3:(List Int)):mv none [.agg [.sl false false p0_0.length (ab aq p0_0)],.sl false false p1.length (ab lM p1),.sl false false p2.length (ab (eI .i64) p2),.sl false false p3.length (ab (eI .i64) p3)]=(lz (aE.mk p0_0) p1 p2 p3).map fun r:aE×Int×(List Int)×Int=>(.clean (.tup [.agg [.sl false false r.1.ah.length (ab aq r.1.ah)],.int .i64 r.2.1,.sl false false r.2.2.1.length (ab (eI .i64) r.2.2.1),.int .i64 r.2.2.2]),none):=aR _ _ _ ((aE.mk p0_0),p1,p2,p3)
noncomputable def p8:Env:=(Am.keep 82 (Am.keep 81 (Am.sw 14 1000014 (Am.vf 66 ⟨87,5,48,NQ⟩ (Am.ext (Am.vf 64 ⟨87,5,48,NP⟩ (Am.ext (Am.ext (Am.ext aB 39 false dh) 62 false nX) 63 false gE)) 65 false cv)))))
theorem Dl:b7 Tryz.prog p8:=(b7.keep (b7.keep (b7.sw (b7.vf ((b7.vf (((b7.none.add jb false).add Hg false).add qZ false) VV).add hZ false) VW) 14 1000014) 81) 82)
theorem uw:p8=(Am.keep 82 (Am.keep 81 (Am.sw 14 1000014 (Am.vf 66 ⟨87,5,48,NQ⟩ (Am.ext (Am.vf 64 ⟨87,5,48,NP⟩ (Am.ext (Am.ext (Am.ext aB 39 false dh) 62 false nX) 63 false gE)) 65 false cv))))):=Eq.trans rfl rfl
theorem av:type_of% (And.intro @w <| And.intro @dy <| And.intro @zd <| And.intro @kK <| And.intro @dt <| @uw):=And.intro @w <| And.intro @dy <| And.intro @zd <| And.intro @kK <| And.intro @dt <| @uw
theorem GX (p0:aE) (p1:(List ByteArray)) (p2:(List Int)) (p3:(List Int)) (r:aE×Int×(List Int)×Int) (hh:lz p0 p1 p2 p3=some r):aX .clean tab p8 FU Tryz.f37 none [.agg [.sl false false p0.ah.length (ab aq p0.ah)],.sl false false p1.length (ab lM p1),.sl false false p2.length (ab (eI .i64) p2),.sl false false p3.length (ab (eI .i64) p3)]=some (.clean (.tup [.agg [.sl false false r.1.ah.length (ab aq r.1.ah)],.int .i64 r.2.1,.sl false false r.2.2.1.length (ab (eI .i64) r.2.2.1),.int .i64 r.2.2.2]),none):=by
 refine ay rfl Tryz.ntmps37 Tryz.results37 ?_
 unfold lz at hh
 obtain ⟨r1,hr1,hh⟩:=ae hh
 try simp only [av,ne_eq,not_false_eq_true,seval,-Int.reduceToNat,hr1]
 obtain ⟨o2,ho2,hh⟩:=ae hh
 refine bV 0 (fun s t H e=>match s with | s39j1=>∃ v4j1:Nat,∃ v8j1:Nat,∃ v10j1:Nat,t 1 = .sl false false p1.length (ab lM p1)∧t 2 = .sl false false p2.length (ab (eI .i64) p2)∧t 3 = .sl false false p3.length (ab (eI .i64) p3)∧t 4 = .ptr 4 v4j1 0∧t 8 = .ptr 8 v8j1 0∧t 10 = .buf 10 v10j1 1 0 0∧t 12 = .int .i64 (p1.length:Int)∧t 39 = .bool s39j1∧H 4=some ⟨v4j1,24,[.sl false false p0.ah.length (ab aq p0.ah)],false,false,false⟩∧H 8=some ⟨v8j1,24,[.sl true true 0 []],false,false,false⟩∧H 10=some ⟨v10j1,3,[],false,true,false⟩) (fun s=>s=o2) ?_ ?_
 ·rintro s39j1 t H e ⟨v4j1,v8j1,v10j1,t1j1,t2j1,t3j1,t4j1,t8j1,t10j1,t12j1,t39j1,H4j1,H8j1,H10j1⟩ rfl
  try dsimp only at hh
  try simp only [av,ne_eq,not_false_eq_true,seval,-Int.reduceToNat,hr1,t1j1,t2j1,t3j1,t4j1,t8j1,t10j1,t12j1,t39j1,H4j1,H8j1,H10j1]
  refine ai (fun hb3 => ?_) (fun hb3 => ?_)
  ·replace hh:=ak hb3 hh
   cases hh
   try simp only [av,ne_eq,not_false_eq_true,seval,-Int.reduceToNat,hr1,t1j1,t2j1,t3j1,t4j1,t8j1,t10j1,t12j1,t39j1,H4j1,H8j1,H10j1]
  ·replace hh:=aj hb3 hh
   try simp only [av,ne_eq,not_false_eq_true,seval,-Int.reduceToNat,hr1,t1j1,t2j1,t3j1,t4j1,t8j1,t10j1,t12j1,t39j1,H4j1,H8j1,H10j1]
   obtain ⟨o12,ho12,hh⟩:=ae hh
   refine aD (fun s t H e=>match s with | s43b=>∃ v4b:Nat,∃ v8b:Nat,∃ v10b:Nat,t 1 = .sl false false p1.length (ab lM p1)∧t 2 = .sl false false p2.length (ab (eI .i64) p2)∧t 3 = .sl false false p3.length (ab (eI .i64) p3)∧t 4 = .ptr 4 v4b 0∧t 8 = .ptr 8 v8b 0∧t 10 = .buf 10 v10b 1 0 0∧t 12 = .int .i64 (p1.length:Int)∧t 42 = .int .i64 (p1.length:Int)∧t 43 = .int .i64 s43b∧H 4=some ⟨v4b,24,[.sl false false p0.ah.length (ab aq p0.ah)],false,false,false⟩∧H 8=some ⟨v8b,24,[.sl true true 0 []],false,false,false⟩∧H 10=some ⟨v10b,3,[],false,true,false⟩) (fun o x t H e=>match o with | (.inl _)=>x = .exit 0∧∃ v4bx:Nat,∃ v8bx:Nat,∃ v10bx:Nat,t 1 = .sl false false p1.length (ab lM p1)∧t 2 = .sl false false p2.length (ab (eI .i64) p2)∧t 3 = .sl false false p3.length (ab (eI .i64) p3)∧t 4 = .ptr 4 v4bx 0∧t 8 = .ptr 8 v8bx 0∧t 10 = .buf 10 v10bx 1 0 0∧t 12 = .int .i64 (p1.length:Int)∧H 4=some ⟨v4bx,24,[.sl false false p0.ah.length (ab aq p0.ah)],false,false,false⟩∧H 8=some ⟨v8bx,24,[.sl true true 0 []],false,false,false⟩∧H 10=some ⟨v10bx,3,[],false,true,false⟩ | (.inr r)=>x = .ret∧gG .clean tab none [.cell 8 24,.tmp 9,.tmp 10,.tmp 11] ⟨t,H,e⟩=some (.clean (.tup [.agg [.sl false false r.1.ah.length (ab aq r.1.ah)],.int .i64 r.2.1,.sl false false r.2.2.1.length (ab (eI .i64) r.2.2.1),.int .i64 r.2.2.2]),none)) ho12 ?_ ?_ ?_
   ·
    refine ⟨v4j1,v8j1,v10j1,?_,?_,?_,?_,?_,?_,?_,?_,?_,?_,?_,?_⟩
    all_goals (first | rfl | (simp only [av,ne_eq,not_false_eq_true,seval,-Int.reduceToNat,hr1,t1j1,t2j1,t3j1,t4j1,t8j1,t10j1,t12j1,t39j1,H4j1,H8j1,H10j1] <;> rfl))
   ·rintro s43b t H e ⟨v4b,v8b,v10b,t1b,t2b,t3b,t4b,t8b,t10b,t12b,t42b,t43b,H4b,H8b,H10b⟩ c hh
    simp only [uQ] at hh
    try simp only [av,ne_eq,not_false_eq_true,seval,-Int.reduceToNat,hr1,t1b,t2b,t3b,t4b,t8b,t10b,t12b,t42b,t43b,H4b,H8b,H10b]
    refine ai (fun hb13 => ?_) (fun hb13 => ?_)
    ·replace hh:=ak hb13 hh
     obtain ⟨x14,hx14,hh⟩:=ae hh
     have bx14:=aJ hx14
     have ax14:=aC lM hx14
     have fx14:=aA lM hx14
     simp only [cl] at ax14 fx14
     skip
     obtain ⟨x15,hx15,hh⟩:=ae hh
     have bx15:=aJ hx15
     have ax15:=aC (eI .i64) hx15
     have fx15:=aA (eI .i64) hx15
     simp only [cl] at ax15 fx15
     skip
     obtain ⟨x16,hx16,hh⟩:=ae hh
     have bx16:=aJ hx16
     have ax16:=aC (eI .i64) hx16
     have fx16:=aA (eI .i64) hx16
     simp only [cl] at ax16 fx16
     skip
     obtain ⟨r17,hr17,hh⟩:=ae hh
     have i18:=dy ([r17])
     simp only [aS,cl,List.length_cons,List.length_nil,Nat.zero_add,Nat.reduceAdd,List.length_set] at i18
     obtain ⟨r19,hr19,hh⟩:=ae hh
     try simp only [av,ne_eq,not_false_eq_true,seval,-Int.reduceToNat,hr1,t1b,t2b,t3b,t4b,t8b,t10b,t12b,t42b,t43b,H4b,H8b,H10b,bx14,ax14,fx14,bx15,ax15,fx15,bx16,ax16,fx16,hr17,i18,hr19]
     refine cI (by kernel_rfl) ?_
     try simp only [av,ne_eq,not_false_eq_true,seval,-Int.reduceToNat,hr1,t1b,t2b,t3b,t4b,t8b,t10b,t12b,t42b,t43b,H4b,H8b,H10b,bx14,ax14,fx14,bx15,ax15,fx15,bx16,ax16,fx16,hr17,i18,hr19]
     refine ai (fun hb20 => ?_) (fun hb20 => ?_)
     ·replace hh:=ak hb20 hh
      cases hh
      try simp only [av,ne_eq,not_false_eq_true,seval,-Int.reduceToNat,hr1,t1b,t2b,t3b,t4b,t8b,t10b,t12b,t42b,t43b,H4b,H8b,H10b,bx14,ax14,fx14,bx15,ax15,fx15,bx16,ax16,fx16,hr17,i18,hr19]
      rw [dQ]
      refine ⟨_,rfl,?_⟩
      refine ⟨rfl,?_⟩
      try simp only [av,ne_eq,not_false_eq_true,seval,-Int.reduceToNat,hr1,t1b,t2b,t3b,t4b,t8b,t10b,t12b,t42b,t43b,H4b,H8b,H10b,bx14,ax14,fx14,bx15,ax15,fx15,bx16,ax16,fx16,hr17,i18,hr19]
     ·replace hh:=aj hb20 hh
      cases hh
      try simp only [av,ne_eq,not_false_eq_true,seval,-Int.reduceToNat,hr1,t1b,t2b,t3b,t4b,t8b,t10b,t12b,t42b,t43b,H4b,H8b,H10b,bx14,ax14,fx14,bx15,ax15,fx15,bx16,ax16,fx16,hr17,i18,hr19]
      rw [aK]
      refine ⟨_,rfl,?_⟩
      refine ⟨v4b,v8b,v10b,?_,?_,?_,?_,?_,?_,?_,?_,?_,?_,?_,?_⟩
      all_goals (first | rfl | (simp only [av,ne_eq,not_false_eq_true,seval,-Int.reduceToNat,hr1,t1b,t2b,t3b,t4b,t8b,t10b,t12b,t42b,t43b,H4b,H8b,H10b,bx14,ax14,fx14,bx15,ax15,fx15,bx16,ax16,fx16,hr17,i18,hr19] <;> rfl))
    ·replace hh:=aj hb13 hh
     cases hh
     try simp only [av,ne_eq,not_false_eq_true,seval,-Int.reduceToNat,hr1,t1b,t2b,t3b,t4b,t8b,t10b,t12b,t42b,t43b,H4b,H8b,H10b]
     rw [bk]
     refine ⟨_,rfl,?_⟩
     refine ⟨rfl,⟨v4b,v8b,v10b,?_,?_,?_,?_,?_,?_,?_,?_,?_,?_⟩⟩
     all_goals (first | rfl | (simp only [av,ne_eq,not_false_eq_true,seval,-Int.reduceToNat,hr1,t1b,t2b,t3b,t4b,t8b,t10b,t12b,t42b,t43b,H4b,H8b,H10b] <;> rfl))
   ·rintro x t H e hx
    rcases o12 with _ | rb
    ·
     dsimp only at hx hh
     obtain ⟨rfl,⟨v4bx,v8bx,v10bx,t1bx,t2bx,t3bx,t4bx,t8bx,t10bx,t12bx,H4bx,H8bx,H10bx⟩⟩:=hx
     try simp only [av,ne_eq,not_false_eq_true,seval,-Int.reduceToNat,hr1,t1bx,t2bx,t3bx,t4bx,t8bx,t10bx,t12bx,H4bx,H8bx,H10bx]
     obtain ⟨o21,ho21,hh⟩:=ae hh
     refine bV 0 (fun s t H e=>match s with | s76j3=>∃ v4j3:Nat,∃ v8j3:Nat,∃ v10j3:Nat,t 1 = .sl false false p1.length (ab lM p1)∧t 2 = .sl false false p2.length (ab (eI .i64) p2)∧t 3 = .sl false false p3.length (ab (eI .i64) p3)∧t 4 = .ptr 4 v4j3 0∧t 8 = .ptr 8 v8j3 0∧t 10 = .buf 10 v10j3 1 0 0∧t 76 = .bool s76j3∧H 4=some ⟨v4j3,24,[.sl false false p0.ah.length (ab aq p0.ah)],false,false,false⟩∧H 8=some ⟨v8j3,24,[.sl true true 0 []],false,false,false⟩∧H 10=some ⟨v10j3,3,[],false,true,false⟩) (fun s=>s=o21) ?_ ?_
     ·rintro s76j3 t H e ⟨v4j3,v8j3,v10j3,t1j3,t2j3,t3j3,t4j3,t8j3,t10j3,t76j3,H4j3,H8j3,H10j3⟩ rfl
      try dsimp only at hh
      try simp only [av,ne_eq,not_false_eq_true,seval,-Int.reduceToNat,hr1,t1j3,t2j3,t3j3,t4j3,t8j3,t10j3,t76j3,H4j3,H8j3,H10j3]
      refine ai (fun hb22 => ?_) (fun hb22 => ?_)
      ·replace hh:=ak hb22 hh
       cases hh
       try simp only [av,ne_eq,not_false_eq_true,seval,-Int.reduceToNat,hr1,t1j3,t2j3,t3j3,t4j3,t8j3,t10j3,t76j3,H4j3,H8j3,H10j3]
      ·replace hh:=aj hb22 hh
       obtain ⟨r23,hr23,hh⟩:=ae hh
       try simp only [av,ne_eq,not_false_eq_true,seval,-Int.reduceToNat,hr1,t1j3,t2j3,t3j3,t4j3,t8j3,t10j3,t76j3,H4j3,H8j3,H10j3,hr23]
       obtain ⟨o33,ho33,hh⟩:=ae hh
       refine aD (fun s t H e=>match s with | (s85d,l10d,l1000014d)=>∃ v8d:Nat,∃ v10d:Nat,∃ v14d:Nat,∃ v1000014d:Nat,t 1 = .sl false false p1.length (ab lM p1)∧t 2 = .sl false false p2.length (ab (eI .i64) p2)∧t 3 = .sl false false p3.length (ab (eI .i64) p3)∧t 8 = .ptr 8 v8d 0∧t 10 = .buf 10 v10d 1 0 (l10d).length∧t 14 = .pm 14 v14d 1000014∧t 84 = .int .i64 (p1.length:Int)∧t 85 = .int .i64 s85d∧H 8=some ⟨v8d,24,[.sl true true 0 []],false,false,false⟩∧H 10=some ⟨v10d,3,ab (eI .i64) l10d,false,true,false⟩∧H 14=some ⟨v14d,110,[.ph 1000014 5 ((l1000014d).length)],false,false,true⟩∧H 1000014=some ⟨v1000014d,87,ab aq l1000014d,false,true,false⟩) (fun o x t H e=>match o with | (l10dx,l1000014dx)=>x = .exit 2∧∃ v8dx:Nat,∃ v10dx:Nat,∃ v14dx:Nat,∃ v1000014dx:Nat,t 8 = .ptr 8 v8dx 0∧t 10 = .buf 10 v10dx 1 0 (l10dx).length∧t 14 = .pm 14 v14dx 1000014∧H 8=some ⟨v8dx,24,[.sl true true 0 []],false,false,false⟩∧H 10=some ⟨v10dx,3,ab (eI .i64) l10dx,false,true,false⟩∧H 14=some ⟨v14dx,110,[.ph 1000014 5 ((l1000014dx).length)],false,false,true⟩∧H 1000014=some ⟨v1000014dx,87,ab aq l1000014dx,false,true,false⟩) ho33 ?_ ?_ ?_
       ·
        refine ⟨v8j3,v10j3,e,0,?_,?_,?_,?_,?_,?_,?_,?_,?_,?_,?_,?_⟩
        all_goals (first | rfl | (simp only [av,ne_eq,not_false_eq_true,seval,-Int.reduceToNat,hr1,t1j3,t2j3,t3j3,t4j3,t8j3,t10j3,t76j3,H4j3,H8j3,H10j3,hr23] <;> rfl))
       ·rintro ⟨s85d,l10d,l1000014d⟩ t H e ⟨v8d,v10d,v14d,v1000014d,t1d,t2d,t3d,t8d,t10d,t14d,t84d,t85d,H8d,H10d,H14d,H1000014d⟩ c hh
        simp only [uR] at hh
        try simp only [av,ne_eq,not_false_eq_true,seval,-Int.reduceToNat,hr1,hr23,t1d,t2d,t3d,t8d,t10d,t14d,t84d,t85d,H8d,H10d,H14d,H1000014d]
        refine ai (fun hb34 => ?_) (fun hb34 => ?_)
        ·replace hh:=ak hb34 hh
         obtain ⟨x35,hx35,hh⟩:=ae hh
         have bx35:=aJ hx35
         have ax35:=aC lM hx35
         have fx35:=aA lM hx35
         simp only [cl] at ax35 fx35
         skip
         obtain ⟨x36,hx36,hh⟩:=ae hh
         have bx36:=aJ hx36
         have ax36:=aC (eI .i64) hx36
         have fx36:=aA (eI .i64) hx36
         simp only [cl] at ax36 fx36
         skip
         obtain ⟨x37,hx37,hh⟩:=ae hh
         have bx37:=aJ hx37
         have ax37:=aC (eI .i64) hx37
         have fx37:=aA (eI .i64) hx37
         simp only [cl] at ax37 fx37
         skip
         obtain ⟨r38,hr38,hh⟩:=ae hh
         obtain ⟨x39,hx39,hh⟩:=ae hh
         obtain ⟨q40w,q40a,q40b,q40c,q40d⟩:=vr l1000014d r38.cR r38.bd r38.bz r38.dp r38.cK hx39
         try simp only [cl] at q40a
         obtain ⟨x41,hx41,hh⟩:=ae hh
         obtain ⟨q42a,q42b,q42c,q42d⟩:=fS (eI .i64) hx41
         simp only [cl] at q42b
         try simp only [av,ne_eq,not_false_eq_true,seval,-Int.reduceToNat,hr1,hr23,t1d,t2d,t3d,t8d,t10d,t14d,t84d,t85d,H8d,H10d,H14d,H1000014d,bx35,ax35,fx35,bx36,ax36,fx36,bx37,ax37,fx37,hr38,q40a,q40b,q40c,q40d,q42a,q42b,q42c,q42d]
         refine cI (by kernel_rfl) ?_
         cases hh
         try simp only [av,ne_eq,not_false_eq_true,seval,-Int.reduceToNat,hr1,hr23,t1d,t2d,t3d,t8d,t10d,t14d,t84d,t85d,H8d,H10d,H14d,H1000014d,bx35,ax35,fx35,bx36,ax36,fx36,bx37,ax37,fx37,hr38,q40a,q40b,q40c,q40d,q42a,q42b,q42c,q42d]
         rw [aK]
         refine ⟨_,rfl,?_⟩
         refine ⟨v8d,e+1+1,v14d,v1000014d,?_,?_,?_,?_,?_,?_,?_,?_,?_,?_,?_,?_⟩
         all_goals (first | rfl | (simp only [av,ne_eq,not_false_eq_true,seval,-Int.reduceToNat,hr1,hr23,t1d,t2d,t3d,t8d,t10d,t14d,t84d,t85d,H8d,H10d,H14d,H1000014d,bx35,ax35,fx35,bx36,ax36,fx36,bx37,ax37,fx37,hr38,q40a,q40b,q40c,q40d,q42a,q42b,q42c,q42d] <;> rfl))
        ·replace hh:=aj hb34 hh
         cases hh
         try simp only [av,ne_eq,not_false_eq_true,seval,-Int.reduceToNat,hr1,hr23,t1d,t2d,t3d,t8d,t10d,t14d,t84d,t85d,H8d,H10d,H14d,H1000014d]
         rw [bk]
         refine ⟨_,rfl,?_⟩
         refine ⟨rfl,⟨v8d,v10d,v14d,v1000014d,?_,?_,?_,?_,?_,?_,?_⟩⟩
         all_goals (first | rfl | (simp only [av,ne_eq,not_false_eq_true,seval,-Int.reduceToNat,hr1,hr23,t1d,t2d,t3d,t8d,t10d,t14d,t84d,t85d,H8d,H10d,H14d,H1000014d] <;> rfl))
       ·rintro x t H e hx
        rcases o33 with ⟨l10dx,l1000014dx⟩
        dsimp only at hx hh
        obtain ⟨rfl,⟨v8dx,v10dx,v14dx,v1000014dx,t8dx,t10dx,t14dx,H8dx,H10dx,H14dx,H1000014dx⟩⟩:=hx
        obtain ⟨r43,hr43,hh⟩:=ae hh
        try simp only [av,ne_eq,not_false_eq_true,seval,-Int.reduceToNat,hr1,hr23,t8dx,t10dx,t14dx,H8dx,H10dx,H14dx,H1000014dx,hr43]
        obtain ⟨o66,ho66,hh⟩:=ae hh
        refine aD (fun s t H e=>match s with | (l16e,l1000014e)=>∃ v8e:Nat,∃ v10e:Nat,∃ v14e:Nat,∃ v16e:Nat,∃ v1000014e:Nat,t 8 = .ptr 8 v8e 0∧t 10 = .buf 10 v10e 1 0 (l10dx).length∧t 14 = .pm 14 v14e 1000014∧t 16 = .buf 16 v16e 1 0 (l16e).length∧H 8=some ⟨v8e,24,[.sl true true 0 []],false,false,false⟩∧H 10=some ⟨v10e,3,ab (eI .i64) l10dx,false,true,false⟩∧H 14=some ⟨v14e,110,[.ph 1000014 5 ((l1000014e).length)],false,false,true⟩∧H 16=some ⟨v16e,3,ab (eI .i64) l16e,false,true,false⟩∧H 1000014=some ⟨v1000014e,87,ab aq l1000014e,false,true,false⟩) (fun o x t H e=>match o with | (l16ex,l1000014ex)=>x = .exit 4∧∃ v8ex:Nat,∃ v10ex:Nat,∃ v14ex:Nat,∃ v16ex:Nat,∃ v1000014ex:Nat,t 8 = .ptr 8 v8ex 0∧t 10 = .buf 10 v10ex 1 0 (l10dx).length∧t 14 = .pm 14 v14ex 1000014∧t 16 = .buf 16 v16ex 1 0 (l16ex).length∧H 8=some ⟨v8ex,24,[.sl true true 0 []],false,false,false⟩∧H 10=some ⟨v10ex,3,ab (eI .i64) l10dx,false,true,false⟩∧H 14=some ⟨v14ex,110,[.ph 1000014 5 ((l1000014ex).length)],false,false,true⟩∧H 16=some ⟨v16ex,3,ab (eI .i64) l16ex,false,true,false⟩∧H 1000014=some ⟨v1000014ex,87,ab aq l1000014ex,false,true,false⟩) ho66 ?_ ?_ ?_
        ·
         refine ⟨v8dx,v10dx,v14dx,e,v1000014dx,?_,?_,?_,?_,?_,?_,?_,?_,?_⟩
         all_goals (first | rfl | (simp only [av,ne_eq,not_false_eq_true,seval,-Int.reduceToNat,hr1,hr23,t8dx,t10dx,t14dx,H8dx,H10dx,H14dx,H1000014dx,hr43] <;> rfl))
        ·rintro ⟨l16e,l1000014e⟩ t H e ⟨v8e,v10e,v14e,v16e,v1000014e,t8e,t10e,t14e,t16e,H8e,H10e,H14e,H16e,H1000014e⟩ c hh
         simp only [uS] at hh
         try simp only [av,ne_eq,not_false_eq_true,seval,-Int.reduceToNat,hr1,hr23,hr43,t8e,t10e,t14e,t16e,H8e,H10e,H14e,H16e,H1000014e]
         refine ai (fun hb67 => ?_) (fun hb67 => ?_)
         ·replace hh:=ak hb67 hh
          try simp only [av,ne_eq,not_false_eq_true,seval,-Int.reduceToNat,hr1,hr23,hr43,t8e,t10e,t14e,t16e,H8e,H10e,H14e,H16e,H1000014e]
          obtain ⟨o75,ho75,hh⟩:=ae hh
          refine aD (fun s t H e=>match s with | (s18g,l17g,l1000014g)=>∃ v8g:Nat,∃ v10g:Nat,∃ v14g:Nat,∃ v16g:Nat,∃ v17g:Nat,∃ v1000014g:Nat,t 8 = .ptr 8 v8g 0∧t 10 = .buf 10 v10g 1 0 (l10dx).length∧t 14 = .pm 14 v14g 1000014∧t 16 = .buf 16 v16g 1 0 (l16e).length∧t 17 = .buf 17 v17g 1 0 (l17g).length∧t 18 = .int .i64 s18g∧H 8=some ⟨v8g,24,[.sl true true 0 []],false,false,false⟩∧H 10=some ⟨v10g,3,ab (eI .i64) l10dx,false,true,false⟩∧H 14=some ⟨v14g,110,[.ph 1000014 5 ((l1000014g).length)],false,false,true⟩∧H 16=some ⟨v16g,3,ab (eI .i64) l16e,false,true,false⟩∧H 17=some ⟨v17g,3,ab (eI .i64) l17g,false,true,false⟩∧H 1000014=some ⟨v1000014g,87,ab aq l1000014g,false,true,false⟩) (fun o x t H e=>match o with | (l17gx,l1000014gx)=>x = .exit 6∧∃ v8gx:Nat,∃ v10gx:Nat,∃ v14gx:Nat,∃ v16gx:Nat,∃ v17gx:Nat,∃ v1000014gx:Nat,t 8 = .ptr 8 v8gx 0∧t 10 = .buf 10 v10gx 1 0 (l10dx).length∧t 14 = .pm 14 v14gx 1000014∧t 16 = .buf 16 v16gx 1 0 (l16e).length∧t 17 = .buf 17 v17gx 1 0 (l17gx).length∧H 8=some ⟨v8gx,24,[.sl true true 0 []],false,false,false⟩∧H 10=some ⟨v10gx,3,ab (eI .i64) l10dx,false,true,false⟩∧H 14=some ⟨v14gx,110,[.ph 1000014 5 ((l1000014gx).length)],false,false,true⟩∧H 16=some ⟨v16gx,3,ab (eI .i64) l16e,false,true,false⟩∧H 17=some ⟨v17gx,3,ab (eI .i64) l17gx,false,true,false⟩∧H 1000014=some ⟨v1000014gx,87,ab aq l1000014gx,false,true,false⟩) ho75 ?_ ?_ ?_
          ·
           refine ⟨v8e,v10e,v14e,v16e,e+1,v1000014e,?_,?_,?_,?_,?_,?_,?_,?_,?_,?_,?_,?_⟩
           all_goals (first | rfl | (simp only [av,ne_eq,not_false_eq_true,seval,-Int.reduceToNat,hr1,hr23,hr43,t8e,t10e,t14e,t16e,H8e,H10e,H14e,H16e,H1000014e] <;> rfl))
          ·rintro ⟨s18g,l17g,l1000014g⟩ t H e ⟨v8g,v10g,v14g,v16g,v17g,v1000014g,t8g,t10g,t14g,t16g,t17g,t18g,H8g,H10g,H14g,H16g,H17g,H1000014g⟩ c hh
           simp only [uT] at hh
           try simp only [av,ne_eq,not_false_eq_true,seval,-Int.reduceToNat,hr1,hr23,hr43,t8g,t10g,t14g,t16g,t17g,t18g,H8g,H10g,H14g,H16g,H17g,H1000014g]
           refine ai (fun hb76 => ?_) (fun hb76 => ?_)
           ·replace hh:=ak hb76 hh
            obtain ⟨x77,hx77,hh⟩:=ae hh
            have bx77:=aJ hx77
            have ax77:=aC (eI .i64) hx77
            have fx77:=aA (eI .i64) hx77
            simp only [cl] at ax77 fx77
            skip
            obtain ⟨x78,hx78,hh⟩:=ae hh
            have bx78:=aJ hx78
            have ax78:=aC (eI .i64) hx78
            have fx78:=aA (eI .i64) hx78
            simp only [cl] at ax78 fx78
            skip
            obtain ⟨x79,hx79,hh⟩:=ae hh
            obtain ⟨q80w,q80a,q80b,q80c,q80d⟩:=tW l1000014g x77 x78 hx79
            try simp only [cl] at q80a
            obtain ⟨x81,hx81,hh⟩:=ae hh
            obtain ⟨q82a,q82b,q82c,q82d⟩:=fS (eI .i64) hx81
            simp only [cl] at q82b
            try simp only [av,ne_eq,not_false_eq_true,seval,-Int.reduceToNat,hr1,hr23,hr43,t8g,t10g,t14g,t16g,t17g,t18g,H8g,H10g,H14g,H16g,H17g,H1000014g,bx77,ax77,fx77,bx78,ax78,fx78,q80a,q80b,q80c,q80d,q82a,q82b,q82c,q82d]
            refine cI (by kernel_rfl) ?_
            cases hh
            try simp only [av,ne_eq,not_false_eq_true,seval,-Int.reduceToNat,hr1,hr23,hr43,t8g,t10g,t14g,t16g,t17g,t18g,H8g,H10g,H14g,H16g,H17g,H1000014g,bx77,ax77,fx77,bx78,ax78,fx78,q80a,q80b,q80c,q80d,q82a,q82b,q82c,q82d]
            rw [aK]
            refine ⟨_,rfl,?_⟩
            refine ⟨v8g,v10g,v14g,v16g,e+1,v1000014g,?_,?_,?_,?_,?_,?_,?_,?_,?_,?_,?_,?_⟩
            all_goals (first | rfl | (simp only [av,ne_eq,not_false_eq_true,seval,-Int.reduceToNat,hr1,hr23,hr43,t8g,t10g,t14g,t16g,t17g,t18g,H8g,H10g,H14g,H16g,H17g,H1000014g,bx77,ax77,fx77,bx78,ax78,fx78,q80a,q80b,q80c,q80d,q82a,q82b,q82c,q82d] <;> rfl))
           ·replace hh:=aj hb76 hh
            cases hh
            try simp only [av,ne_eq,not_false_eq_true,seval,-Int.reduceToNat,hr1,hr23,hr43,t8g,t10g,t14g,t16g,t17g,t18g,H8g,H10g,H14g,H16g,H17g,H1000014g]
            rw [bk]
            refine ⟨_,rfl,?_⟩
            refine ⟨rfl,⟨v8g,v10g,v14g,v16g,v17g,v1000014g,?_,?_,?_,?_,?_,?_,?_,?_,?_,?_,?_⟩⟩
            all_goals (first | rfl | (simp only [av,ne_eq,not_false_eq_true,seval,-Int.reduceToNat,hr1,hr23,hr43,t8g,t10g,t14g,t16g,t17g,t18g,H8g,H10g,H14g,H16g,H17g,H1000014g] <;> rfl))
          ·rintro x t H e hx
           rcases o75 with ⟨l17gx,l1000014gx⟩
           dsimp only at hx hh
           obtain ⟨rfl,⟨v8gx,v10gx,v14gx,v16gx,v17gx,v1000014gx,t8gx,t10gx,t14gx,t16gx,t17gx,H8gx,H10gx,H14gx,H16gx,H17gx,H1000014gx⟩⟩:=hx
           obtain ⟨x83,hx83,hh⟩:=ae hh
           obtain ⟨q84a,q84b⟩:=qm hx83
           try simp only [av,ne_eq,not_false_eq_true,seval,-Int.reduceToNat,hr1,hr23,hr43,t8gx,t10gx,t14gx,t16gx,t17gx,H8gx,H10gx,H14gx,H16gx,H17gx,H1000014gx,q84a,q84b]
           refine ai (fun hb85 => ?_) (fun hb85 => ?_)
           ·replace hh:=ak hb85 hh
            obtain ⟨x86,hx86,hh⟩:=ae hh
            have bx86:=aJ hx86
            have ax86:=aC (eI .i64) hx86
            have fx86:=aA (eI .i64) hx86
            simp only [cl] at ax86 fx86
            skip
            obtain ⟨x87,hx87,hh⟩:=ae hh
            obtain ⟨q88a,q88b,q88c,q88d⟩:=fS (eI .i64) hx87
            simp only [cl] at q88b
            cases hh
            try simp only [av,ne_eq,not_false_eq_true,seval,-Int.reduceToNat,hr1,hr23,hr43,t8gx,t10gx,t14gx,t16gx,t17gx,H8gx,H10gx,H14gx,H16gx,H17gx,H1000014gx,q84a,q84b,bx86,ax86,fx86,q88a,q88b,q88c,q88d]
            rw [aK]
            refine ⟨_,rfl,?_⟩
            refine ⟨v8gx,v10gx,v14gx,e+1+1,v1000014gx,?_,?_,?_,?_,?_,?_,?_,?_,?_⟩
            all_goals (first | rfl | (simp only [av,ne_eq,not_false_eq_true,seval,-Int.reduceToNat,hr1,hr23,hr43,t8gx,t10gx,t14gx,t16gx,t17gx,H8gx,H10gx,H14gx,H16gx,H17gx,H1000014gx,q84a,q84b,bx86,ax86,fx86,q88a,q88b,q88c,q88d] <;> rfl))
           ·replace hh:=aj hb85 hh
            cases hh
            try simp only [av,ne_eq,not_false_eq_true,seval,-Int.reduceToNat,hr1,hr23,hr43,t8gx,t10gx,t14gx,t16gx,t17gx,H8gx,H10gx,H14gx,H16gx,H17gx,H1000014gx,q84a,q84b]
            rw [aK]
            refine ⟨_,rfl,?_⟩
            refine ⟨v8gx,v10gx,v14gx,e+1,v1000014gx,?_,?_,?_,?_,?_,?_,?_,?_,?_⟩
            all_goals (first | rfl | (simp only [av,ne_eq,not_false_eq_true,seval,-Int.reduceToNat,hr1,hr23,hr43,t8gx,t10gx,t14gx,t16gx,t17gx,H8gx,H10gx,H14gx,H16gx,H17gx,H1000014gx,q84a,q84b] <;> rfl))
         ·replace hh:=aj hb67 hh
          cases hh
          try simp only [av,ne_eq,not_false_eq_true,seval,-Int.reduceToNat,hr1,hr23,hr43,t8e,t10e,t14e,t16e,H8e,H10e,H14e,H16e,H1000014e]
          rw [bk]
          refine ⟨_,rfl,?_⟩
          refine ⟨rfl,⟨v8e,v10e,v14e,v16e,v1000014e,?_,?_,?_,?_,?_,?_,?_,?_,?_⟩⟩
          all_goals (first | rfl | (simp only [av,ne_eq,not_false_eq_true,seval,-Int.reduceToNat,hr1,hr23,hr43,t8e,t10e,t14e,t16e,H8e,H10e,H14e,H16e,H1000014e] <;> rfl))
        ·rintro x t H e hx
         rcases o66 with ⟨l16ex,l1000014ex⟩
         dsimp only at hx hh
         obtain ⟨rfl,⟨v8ex,v10ex,v14ex,v16ex,v1000014ex,t8ex,t10ex,t14ex,t16ex,H8ex,H10ex,H14ex,H16ex,H1000014ex⟩⟩:=hx
         obtain ⟨x89,hx89,hh⟩:=ae hh
         have bx89:=aJ hx89
         have ax89:=aC (eI .i64) hx89
         have fx89:=aA (eI .i64) hx89
         simp only [cl] at ax89 fx89
         skip
         try simp only [av,ne_eq,not_false_eq_true,seval,-Int.reduceToNat,hr1,hr23,hr43,t8ex,t10ex,t14ex,t16ex,H8ex,H10ex,H14ex,H16ex,H1000014ex,bx89,ax89,fx89]
         refine cI (by kernel_rfl) ?_
         cases hh
         try simp only [av,ne_eq,not_false_eq_true,seval,-Int.reduceToNat,hr1,hr23,hr43,t8ex,t10ex,t14ex,t16ex,H8ex,H10ex,H14ex,H16ex,H1000014ex,bx89,ax89,fx89]
     ·
      clear hh
      have hh:=ho21
      try simp only [av,ne_eq,not_false_eq_true,seval,-Int.reduceToNat,hr1,t1bx,t2bx,t3bx,t4bx,t8bx,t10bx,t12bx,H4bx,H8bx,H10bx]
      refine bj (fun hb90 => ?_) (fun hb90 => ?_)
      ·replace hh:=ak hb90 hh
       cases hh
       try simp only [av,ne_eq,not_false_eq_true,seval,-Int.reduceToNat,hr1,t1bx,t2bx,t3bx,t4bx,t8bx,t10bx,t12bx,H4bx,H8bx,H10bx]
       rw [an]
       refine ⟨_,rfl,?_⟩
       refine ⟨v4bx,v8bx,v10bx,?_,?_,?_,?_,?_,?_,?_,?_,?_,?_⟩
       all_goals (first | rfl | (simp only [av,ne_eq,not_false_eq_true,seval,-Int.reduceToNat,hr1,t1bx,t2bx,t3bx,t4bx,t8bx,t10bx,t12bx,H4bx,H8bx,H10bx] <;> rfl))
      ·replace hh:=aj hb90 hh
       cases hh
       try simp only [av,ne_eq,not_false_eq_true,seval,-Int.reduceToNat,hr1,t1bx,t2bx,t3bx,t4bx,t8bx,t10bx,t12bx,H4bx,H8bx,H10bx]
       rw [an]
       refine ⟨_,rfl,?_⟩
       refine ⟨v4bx,v8bx,v10bx,?_,?_,?_,?_,?_,?_,?_,?_,?_,?_⟩
       all_goals (first | rfl | (simp only [av,ne_eq,not_false_eq_true,seval,-Int.reduceToNat,hr1,t1bx,t2bx,t3bx,t4bx,t8bx,t10bx,t12bx,H4bx,H8bx,H10bx] <;> rfl))
    ·
     dsimp only at hx hh
     obtain ⟨rfl,hE⟩:=hx
     cases hh
     try simp only [bo,bf,bG,cY,cX]
     exact hE
 ·
  clear hh
  have hh:=ho2
  try simp only [av,ne_eq,not_false_eq_true,seval,-Int.reduceToNat,hr1]
  refine bj (fun hb91 => ?_) (fun hb91 => ?_)
  ·replace hh:=ak hb91 hh
   cases hh
   try simp only [av,ne_eq,not_false_eq_true,seval,-Int.reduceToNat,hr1]
   rw [an]
   refine ⟨_,rfl,?_⟩
   refine ⟨0,0,0,?_,?_,?_,?_,?_,?_,?_,?_,?_,?_,?_⟩
   all_goals (first | rfl | (simp only [av,ne_eq,not_false_eq_true,seval,-Int.reduceToNat,hr1] <;> rfl))
  ·replace hh:=aj hb91 hh
   try simp only [av,ne_eq,not_false_eq_true,seval,-Int.reduceToNat,hr1]
   refine bj (fun hb92 => ?_) (fun hb92 => ?_)
   ·replace hh:=ak hb92 hh
    cases hh
    try simp only [av,ne_eq,not_false_eq_true,seval,-Int.reduceToNat,hr1]
    rw [an]
    refine ⟨_,rfl,?_⟩
    refine ⟨0,0,0,?_,?_,?_,?_,?_,?_,?_,?_,?_,?_,?_⟩
    all_goals (first | rfl | (simp only [av,ne_eq,not_false_eq_true,seval,-Int.reduceToNat,hr1] <;> rfl))
   ·replace hh:=aj hb92 hh
    try simp only [av,ne_eq,not_false_eq_true,seval,-Int.reduceToNat,hr1]
    refine bj (fun hb93 => ?_) (fun hb93 => ?_)
    ·replace hh:=ak hb93 hh
     cases hh
     try simp only [av,ne_eq,not_false_eq_true,seval,-Int.reduceToNat,hr1]
     rw [an]
     refine ⟨_,rfl,?_⟩
     refine ⟨0,0,0,?_,?_,?_,?_,?_,?_,?_,?_,?_,?_,?_⟩
     all_goals (first | rfl | (simp only [av,ne_eq,not_false_eq_true,seval,-Int.reduceToNat,hr1] <;> rfl))
    ·replace hh:=aj hb93 hh
     cases hh
     try simp only [av,ne_eq,not_false_eq_true,seval,-Int.reduceToNat,hr1]
     rw [an]
     refine ⟨_,rfl,?_⟩
     refine ⟨0,0,0,?_,?_,?_,?_,?_,?_,?_,?_,?_,?_,?_⟩
     all_goals (first | rfl | (simp only [av,ne_eq,not_false_eq_true,seval,-Int.reduceToNat,hr1] <;> rfl))
theorem DK:bW Tryz.prog 37 mv:=bW.of (mode := .clean) tok Dl mixed Tryz.func37 (by kernel_rfl) ⟨by kernel_rfl,by kernel_rfl⟩ (fun _=>Nat.le_of_ble_eq_true (by kernel_rfl)) (fun x r h=>GX x.1 x.2.1 x.2.2.1 x.2.2.2 r h)
noncomputable def kp:=eZ (eg (ie (eI .i64)) (ef (ie (eI .i64)))) (fun x:(List Int)×(List Int)=>gi x.1 x.2) (fun r:Bool => .clean (.bool r))
theorem kJ (p0:(List Int)) (p1:(List Int)):kp none [.sl false false p0.length (ab (eI .i64) p0),.sl false false p1.length (ab (eI .i64) p1)]=(gi p0 p1).map fun r:Bool=>(.clean (.bool r),none):=aR _ _ _ (p0,p1)
theorem B6 (p0:(List Int)) (p1:(List Int)) (r:Bool) (hh:gi p0 p1=some r):aX .clean tab aB FU Tryz.f18 none [.sl false false p0.length (ab (eI .i64) p0),.sl false false p1.length (ab (eI .i64) p1)]=some (.clean (.bool r),none):=by
 refine ay rfl Tryz.ntmps18 Tryz.results18 ?_
 unfold gi at hh
 try simp only [w,seval,-Int.reduceToNat]
 refine ai (fun hb1 => ?_) (fun hb1 => ?_)
 ·replace hh:=ak hb1 hh
  cases hh
  try simp only [w,seval,-Int.reduceToNat]
 ·replace hh:=aj hb1 hh
  try simp only [w,seval,-Int.reduceToNat]
  obtain ⟨o6,ho6,hh⟩:=ae hh
  refine aD (fun s t H e=>match s with | s5a=>t 0 = .sl false false p0.length (ab (eI .i64) p0)∧t 1 = .sl false false p1.length (ab (eI .i64) p1)∧t 5 = .int .i64 s5a) (fun o x t H e=>match o with | (.inl _)=>x = .exit 0 | (.inr r)=>x = .ret∧gG .clean tab none [.tmp 4] ⟨t,H,e⟩=some (.clean (.bool r),none)) ho6 ?_ ?_ ?_
  ·
   refine ⟨?_,?_,?_⟩
   all_goals (first | rfl | (simp only [w,seval,-Int.reduceToNat] <;> rfl))
  ·rintro s5a t H e ⟨t0a,t1a,t5a⟩ c hh
   simp only [re] at hh
   try simp only [w,seval,-Int.reduceToNat,t0a,t1a,t5a]
   refine ai (fun hb7 => ?_) (fun hb7 => ?_)
   ·replace hh:=ak hb7 hh
    obtain ⟨x8,hx8,hh⟩:=ae hh
    have bx8:=aJ hx8
    have ax8:=aC (eI .i64) hx8
    have fx8:=aA (eI .i64) hx8
    simp only [cl] at ax8 fx8
    skip
    obtain ⟨x9,hx9,hh⟩:=ae hh
    have bx9:=aJ hx9
    have ax9:=aC (eI .i64) hx9
    have fx9:=aA (eI .i64) hx9
    simp only [cl] at ax9 fx9
    skip
    try simp only [w,seval,-Int.reduceToNat,t0a,t1a,t5a,bx8,ax8,fx8,bx9,ax9,fx9]
    refine cI (by kernel_rfl) ?_
    try simp only [w,seval,-Int.reduceToNat,t0a,t1a,t5a,bx8,ax8,fx8,bx9,ax9,fx9]
    refine ai (fun hb10 => ?_) (fun hb10 => ?_)
    ·replace hh:=ak hb10 hh
     cases hh
     try simp only [w,seval,-Int.reduceToNat,t0a,t1a,t5a,bx8,ax8,fx8,bx9,ax9,fx9]
     rw [dQ]
     refine ⟨_,rfl,?_⟩
     refine ⟨rfl,?_⟩
     try simp only [w,seval,-Int.reduceToNat,t0a,t1a,t5a,bx8,ax8,fx8,bx9,ax9,fx9]
    ·replace hh:=aj hb10 hh
     cases hh
     try simp only [w,seval,-Int.reduceToNat,t0a,t1a,t5a,bx8,ax8,fx8,bx9,ax9,fx9]
     rw [aK]
     refine ⟨_,rfl,?_⟩
     refine ⟨?_,?_,?_⟩
     all_goals (first | rfl | (simp only [w,seval,-Int.reduceToNat,t0a,t1a,t5a,bx8,ax8,fx8,bx9,ax9,fx9] <;> rfl))
   ·replace hh:=aj hb7 hh
    cases hh
    try simp only [w,seval,-Int.reduceToNat,t0a,t1a,t5a]
    rw [bk]
    refine ⟨_,rfl,?_⟩
    exact rfl
  ·rintro x t H e hx
   rcases o6 with _ | ra
   ·
    dsimp only at hx hh
    subst hx
    cases hh
    try simp only [w,seval,-Int.reduceToNat]
   ·
    dsimp only at hx hh
    obtain ⟨rfl,hE⟩:=hx
    cases hh
    try simp only [bo,bf,bG,cY,cX]
    exact hE
theorem zM:bW Tryz.prog 18 kp:=bW.of (mode := .clean) tok b7.none mixed Tryz.func18 (by kernel_rfl) ⟨by kernel_rfl,by kernel_rfl⟩ (fun _=>Nat.le_of_ble_eq_true (by kernel_rfl)) (fun x r h=>B6 x.1 x.2 r h)
noncomputable def eU:=eZ (ef (ie (eI .i64))) (fun x:(List Int)=>gh x) (fun r:(List Int) => .clean (.sl false false r.length (ab (eI .i64) r)))
theorem fG (p0:(List Int)):eU none [.sl false false p0.length (ab (eI .i64) p0)]=(gh p0).map fun r:(List Int)=>(.clean (.sl false false r.length (ab (eI .i64) r)),none):=aR _ _ _ (p0)
theorem L1 (p0:(List Int)) (r:(List Int)) (hh:gh p0=some r):aX .clean tab aB FU Tryz.f169 none [.sl false false p0.length (ab (eI .i64) p0)]=some (.clean (.sl false false r.length (ab (eI .i64) r)),none):=by
 refine ay rfl Tryz.ntmps169 Tryz.results169 ?_
 unfold gh at hh
 try simp only [w,seval,-Int.reduceToNat]
 obtain ⟨o4,ho4,hh⟩:=ae hh
 refine aD (fun s t H e=>match s with | s3a=>t 0 = .sl false false p0.length (ab (eI .i64) p0)∧t 3 = .int .i64 s3a) (fun o x t H e=>match o with | s3ax=>x = .exit 0∧t 0 = .sl false false p0.length (ab (eI .i64) p0)∧t 3 = .int .i64 s3ax) ho4 ?_ ?_ ?_
 ·
  refine ⟨?_,?_⟩
  all_goals (first | rfl | (simp only [w,seval,-Int.reduceToNat] <;> rfl))
 ·rintro s3a t H e ⟨t0a,t3a⟩ c hh
  simp only [sT] at hh
  try simp only [w,seval,-Int.reduceToNat,t0a,t3a]
  refine bK (fun hb5 => ?_) (fun hb5 => ?_)
  ·replace hh:=ak hb5 hh
   obtain ⟨x6,hx6,hh⟩:=ae hh
   have bx6:=aJ hx6
   have ax6:=aC (eI .i64) hx6
   have fx6:=aA (eI .i64) hx6
   simp only [cl] at ax6 fx6
   skip
   try simp only [w,seval,-Int.reduceToNat,t0a,t3a,bx6,ax6,fx6]
   refine ai (fun hb7 => ?_) (fun hb7 => ?_)
   ·replace hh:=ak hb7 hh
    cases hh
    try simp only [w,seval,-Int.reduceToNat,t0a,t3a,bx6,ax6,fx6]
    rw [aK]
    refine ⟨_,rfl,?_⟩
    refine ⟨?_,?_⟩
    all_goals (first | rfl | (simp only [w,seval,-Int.reduceToNat,t0a,t3a,bx6,ax6,fx6] <;> rfl))
   ·replace hh:=aj hb7 hh
    cases hh
    try simp only [w,seval,-Int.reduceToNat,t0a,t3a,bx6,ax6,fx6]
    rw [bk]
    refine ⟨_,rfl,?_⟩
    refine ⟨rfl,⟨?_,?_⟩⟩
    all_goals (first | rfl | (simp only [w,seval,-Int.reduceToNat,t0a,t3a,bx6,ax6,fx6] <;> rfl))
  ·replace hh:=aj hb5 hh
   cases hh
   try simp only [w,seval,-Int.reduceToNat,t0a,t3a]
   rw [bk]
   refine ⟨_,rfl,?_⟩
   refine ⟨rfl,⟨?_,?_⟩⟩
   all_goals (first | rfl | (simp only [w,seval,-Int.reduceToNat,t0a,t3a] <;> rfl))
 ·rintro x t H e hx
  obtain ⟨s3ax,rfl⟩ : ∃ z,z=o4:=⟨_,rfl⟩
  dsimp only at hx hh
  obtain ⟨rfl,⟨t0ax,t3ax⟩⟩:=hx
  obtain ⟨x8,hx8,hh⟩:=ae hh
  obtain ⟨q9a,q9b,q9c,q9d,q9e⟩:=CO (eI .i64) hx8
  simp only [cl] at q9e
  obtain ⟨x10,hx10,hh⟩:=ae hh
  obtain ⟨q11a,q11b,q11c⟩:=pI hx10
  replace q11a:=q11a.symm
  subst q11a
  cases hh
  try simp only [w,seval,-Int.reduceToNat,t0ax,t3ax,q9a,q9b,q9c,q9d,q9e,q11b,q11c]
theorem lT:bW Tryz.prog 169 eU:=bW.of (mode := .clean) tok b7.none mixed Tryz.func169 (by kernel_rfl) ⟨by kernel_rfl,by kernel_rfl⟩ (fun _=>Nat.le_of_ble_eq_true (by kernel_rfl)) (fun x r h=>L1 x r h)
noncomputable def gq:=eZ (eg (aI .i64) (ef (ie (eI .i64)))) (fun x:Int×(List Int)=>fH x.1 x.2) (fun r:aw => .clean (.agg [.int .i64 r.ag,.sl false false r.aa.length (ab (eI .i64) r.aa)]))
theorem jc (p0:Int) (p1:(List Int)):gq none [.int .i64 p0,.sl false false p1.length (ab (eI .i64) p1)]=(fH p0 p1).map fun r:aw=>(.clean (.agg [.int .i64 r.ag,.sl false false r.aa.length (ab (eI .i64) r.aa)]),none):=aR _ _ _ (p0,p1)
noncomputable def vb:Env:=(Am.ext aB 169 false eU)
theorem I3:b7 Tryz.prog vb:=(b7.none.add lT false)
theorem yT:vb=(Am.ext aB 169 false eU):=Eq.trans rfl rfl
theorem vB:type_of% (And.intro @w <| And.intro @fG <| @yT):=And.intro @w <| And.intro @fG <| @yT
theorem LY (p0:Int) (p1:(List Int)) (r:aw) (hh:fH p0 p1=some r):aX .clean tab vb FU Tryz.f133 none [.int .i64 p0,.sl false false p1.length (ab (eI .i64) p1)]=some (.clean (.agg [.int .i64 r.ag,.sl false false r.aa.length (ab (eI .i64) r.aa)]),none):=by
 refine ay rfl Tryz.ntmps133 Tryz.results133 ?_
 unfold fH at hh
 obtain ⟨r1,hr1,hh⟩:=ae hh
 try simp only [vB,seval,-Int.reduceToNat,hr1]
 refine ai (fun hb2 => ?_) (fun hb2 => ?_)
 ·replace hh:=ak hb2 hh
  cases hh
  try simp only [vB,seval,-Int.reduceToNat,hr1]
 ·replace hh:=aj hb2 hh
  cases hh
  try simp only [vB,seval,-Int.reduceToNat,hr1]
theorem od:bW Tryz.prog 133 gq:=bW.of (mode := .clean) tok I3 mixed Tryz.func133 (by kernel_rfl) ⟨by kernel_rfl,by kernel_rfl⟩ (fun _=>Nat.le_of_ble_eq_true (by kernel_rfl)) (fun x r h=>LY x.1 x.2 r h)
noncomputable def vD:=eZ (ef (aI .i64)) (fun x:Int=>qv x) (fun r:aw => .clean (.agg [.int .i64 r.ag,.sl false false r.aa.length (ab (eI .i64) r.aa)]))
theorem Kn (p0:Int):vD none [.int .i64 p0]=(qv p0).map fun r:aw=>(.clean (.agg [.int .i64 r.ag,.sl false false r.aa.length (ab (eI .i64) r.aa)]),none):=aR _ _ _ (p0)
noncomputable def Bw:Env:=(Am.ext aB 133 false gq)
theorem Ph:b7 Tryz.prog Bw:=(b7.none.add od false)
theorem E6:Bw=(Am.ext aB 133 false gq):=Eq.trans rfl rfl
theorem ec:type_of% (And.intro @w <| And.intro @jc <| @E6):=And.intro @w <| And.intro @jc <| @E6
theorem Ru (p0:Int) (r:aw) (hh:qv p0=some r):aX .clean tab Bw FU Tryz.f103 none [.int .i64 p0]=some (.clean (.agg [.int .i64 r.ag,.sl false false r.aa.length (ab (eI .i64) r.aa)]),none):=by
 refine ay rfl Tryz.ntmps103 Tryz.results103 ?_
 unfold qv at hh
 try simp only [ec,seval,-Int.reduceToNat]
 refine ai (fun hb1 => ?_) (fun hb1 => ?_)
 ·replace hh:=ak hb1 hh
  cases hh
  try simp only [ec,seval,-Int.reduceToNat]
 ·replace hh:=aj hb1 hh
  try simp only [ec,seval,-Int.reduceToNat]
  obtain ⟨o2,ho2,hh⟩:=ae hh
  refine l7 0 (fun s t H e=>match s with | s3j1=>∃ v2j1:Nat,t 0 = .int .i64 p0∧t 2 = .ptr 2 v2j1 0∧t 3 = .int .i64 s3j1∧H 2=some ⟨v2j1,49,[.int .i64 0,.sl true true 0 []],false,false,false⟩) (fun s=>s=o2) ?_ ?_
  ·rintro s3j1 t H e ⟨v2j1,t0j1,t2j1,t3j1,H2j1⟩ rfl
   try dsimp only at hh
   try simp only [ec,seval,-Int.reduceToNat,t0j1,t2j1,t3j1,H2j1]
   obtain ⟨o15,ho15,hh⟩:=ae hh
   refine aD (fun s t H e=>match s with | (s0b,l4b)=>∃ v2b:Nat,∃ v4b:Nat,t 0 = .int .i64 s0b∧t 2 = .ptr 2 v2b 0∧t 3 = .int .i64 s3j1∧t 4 = .buf 4 v4b 1 0 (l4b).length∧H 2=some ⟨v2b,49,[.int .i64 0,.sl true true 0 []],false,false,false⟩∧H 4=some ⟨v4b,3,ab (eI .i64) l4b,false,true,false⟩) (fun o x t H e=>match o with | l4bx=>x = .exit 0∧∃ v2bx:Nat,∃ v4bx:Nat,t 2 = .ptr 2 v2bx 0∧t 3 = .int .i64 s3j1∧t 4 = .buf 4 v4bx 1 0 (l4bx).length∧H 2=some ⟨v2bx,49,[.int .i64 0,.sl true true 0 []],false,false,false⟩∧H 4=some ⟨v4bx,3,ab (eI .i64) l4bx,false,true,false⟩) ho15 ?_ ?_ ?_
   ·
    refine ⟨v2j1,e,?_,?_,?_,?_,?_,?_⟩
    all_goals (first | rfl | (simp only [ec,seval,-Int.reduceToNat,t0j1,t2j1,t3j1,H2j1] <;> rfl))
   ·rintro ⟨s0b,l4b⟩ t H e ⟨v2b,v4b,t0b,t2b,t3b,t4b,H2b,H4b⟩ c hh
    simp only [tF] at hh
    try simp only [ec,seval,-Int.reduceToNat,t0b,t2b,t3b,t4b,H2b,H4b]
    refine ai (fun hb16 => ?_) (fun hb16 => ?_)
    ·replace hh:=ak hb16 hh
     obtain ⟨x17,hx17,hh⟩:=ae hh
     obtain ⟨q18a,q18b⟩:=qm hx17
     try simp only [ec,seval,-Int.reduceToNat,t0b,t2b,t3b,t4b,H2b,H4b,q18a,q18b]
     refine ai (fun hb19 => ?_) (fun hb19 => ?_)
     ·replace hh:=ak hb19 hh
      obtain ⟨x20,hx20,hh⟩:=ae hh
      obtain ⟨q21a,q21b,q21c,q21d⟩:=fS (eI .i64) hx20
      simp only [cl] at q21b
      obtain ⟨x22,hx22,hh⟩:=ae hh
      obtain ⟨q23a,q23b⟩:=pU hx22
      cases hh
      try simp only [ec,seval,-Int.reduceToNat,t0b,t2b,t3b,t4b,H2b,H4b,q18a,q18b,q21a,q21b,q21c,q21d,q23a,q23b]
      rw [aK]
      refine ⟨_,rfl,?_⟩
      refine ⟨v2b,e+1+1+1+1,?_,?_,?_,?_,?_,?_⟩
      all_goals (first | rfl | (simp only [ec,seval,-Int.reduceToNat,t0b,t2b,t3b,t4b,H2b,H4b,q18a,q18b,q21a,q21b,q21c,q21d,q23a,q23b] <;> rfl))
     ·replace hh:=aj hb19 hh
      obtain ⟨x24,hx24,hh⟩:=ae hh
      obtain ⟨q25a,q25b,q25c,q25d⟩:=fS (eI .i64) hx24
      simp only [cl] at q25b
      obtain ⟨x26,hx26,hh⟩:=ae hh
      obtain ⟨q27a,q27b⟩:=pU hx26
      cases hh
      try simp only [ec,seval,-Int.reduceToNat,t0b,t2b,t3b,t4b,H2b,H4b,q18a,q18b,q25a,q25b,q25c,q25d,q27a,q27b]
      rw [aK]
      refine ⟨_,rfl,?_⟩
      refine ⟨v2b,e+1+1+1,?_,?_,?_,?_,?_,?_⟩
      all_goals (first | rfl | (simp only [ec,seval,-Int.reduceToNat,t0b,t2b,t3b,t4b,H2b,H4b,q18a,q18b,q25a,q25b,q25c,q25d,q27a,q27b] <;> rfl))
    ·replace hh:=aj hb16 hh
     cases hh
     try simp only [ec,seval,-Int.reduceToNat,t0b,t2b,t3b,t4b,H2b,H4b]
     rw [bk]
     refine ⟨_,rfl,?_⟩
     refine ⟨rfl,⟨v2b,v4b,?_,?_,?_,?_,?_⟩⟩
     all_goals (first | rfl | (simp only [ec,seval,-Int.reduceToNat,t0b,t2b,t3b,t4b,H2b,H4b] <;> rfl))
   ·rintro x t H e hx
    obtain ⟨l4bx,rfl⟩ : ∃ z,z=o15:=⟨_,rfl⟩
    dsimp only at hx hh
    obtain ⟨rfl,⟨v2bx,v4bx,t2bx,t3bx,t4bx,H2bx,H4bx⟩⟩:=hx
    obtain ⟨r28,hr28,hh⟩:=ae hh
    cases hh
    try simp only [ec,seval,-Int.reduceToNat,t2bx,t3bx,t4bx,H2bx,H4bx,hr28]
  ·
   clear hh
   have hh:=ho2
   try simp only [ec,seval,-Int.reduceToNat]
   refine ai (fun hb29 => ?_) (fun hb29 => ?_)
   ·replace hh:=ak hb29 hh
    cases hh
    try simp only [ec,seval,-Int.reduceToNat]
    rw [an]
    refine ⟨_,rfl,?_⟩
    refine ⟨0,?_,?_,?_,?_⟩
    all_goals (first | rfl | (simp only [ec,seval,-Int.reduceToNat] <;> rfl))
   ·replace hh:=aj hb29 hh
    cases hh
    try simp only [ec,seval,-Int.reduceToNat]
    rw [an]
    refine ⟨_,rfl,?_⟩
    refine ⟨0,?_,?_,?_,?_⟩
    all_goals (first | rfl | (simp only [ec,seval,-Int.reduceToNat] <;> rfl))
theorem PI:bW Tryz.prog 103 vD:=bW.of (mode := .clean) tok Ph mixed Tryz.func103 (by kernel_rfl) ⟨by kernel_rfl,by kernel_rfl⟩ (fun _=>Nat.le_of_ble_eq_true (by kernel_rfl)) (fun x r h=>Ru x r h)
noncomputable def fl:=eZ (ef (dO ij)) (fun x:aw=>dc x) (fun r:Bool => .clean (.bool r))
theorem gS (p0_0:Int) (p0_1:(List Int)):fl none [.agg [.int .i64 p0_0,.sl false false p0_1.length (ab (eI .i64) p0_1)]]=(dc (aw.mk p0_0 p0_1)).map fun r:Bool=>(.clean (.bool r),none):=aR _ _ _ ((aw.mk p0_0 p0_1))
theorem JL (p0:aw) (r:Bool) (hh:dc p0=some r):aX .clean tab aB FU Tryz.f111 none [.agg [.int .i64 p0.ag,.sl false false p0.aa.length (ab (eI .i64) p0.aa)]]=some (.clean (.bool r),none):=by
 refine ay rfl Tryz.ntmps111 Tryz.results111 ?_
 unfold dc at hh
 try simp only [w,seval,-Int.reduceToNat]
 obtain ⟨o5,ho5,hh⟩:=ae hh
 refine aD (fun s t H e=>match s with | s3a=>∃ v1a:Nat,t 1 = .ptr 1 v1a 0∧t 3 = .int .i64 s3a∧H 1=some ⟨v1a,49,[.int .i64 p0.ag,.sl false false p0.aa.length (ab (eI .i64) p0.aa)],false,false,false⟩) (fun o x t H e=>match o with | (.inl _)=>x = .exit 0∧∃ v1ax:Nat,t 1 = .ptr 1 v1ax 0∧H 1=some ⟨v1ax,49,[.int .i64 p0.ag,.sl false false p0.aa.length (ab (eI .i64) p0.aa)],false,false,false⟩ | (.inr r)=>x = .ret∧gG .clean tab none [.tmp 2] ⟨t,H,e⟩=some (.clean (.bool r),none)) ho5 ?_ ?_ ?_
 ·
  refine ⟨0,?_,?_,?_⟩
  all_goals (first | rfl | (simp only [w,seval,-Int.reduceToNat] <;> rfl))
 ·rintro s3a t H e ⟨v1a,t1a,t3a,H1a⟩ c hh
  simp only [mN] at hh
  try simp only [w,seval,-Int.reduceToNat,t1a,t3a,H1a]
  refine ai (fun hb6 => ?_) (fun hb6 => ?_)
  ·replace hh:=ak hb6 hh
   obtain ⟨x7,hx7,hh⟩:=ae hh
   have bx7:=aJ hx7
   have ax7:=aC (eI .i64) hx7
   have fx7:=aA (eI .i64) hx7
   simp only [cl] at ax7 fx7
   skip
   try simp only [w,seval,-Int.reduceToNat,t1a,t3a,H1a,bx7,ax7,fx7]
   refine bj (fun hb8 => ?_) (fun hb8 => ?_)
   ·replace hh:=ak hb8 hh
    cases hh
    try simp only [w,seval,-Int.reduceToNat,t1a,t3a,H1a,bx7,ax7,fx7]
    rw [dQ]
    refine ⟨_,rfl,?_⟩
    refine ⟨rfl,?_⟩
    try simp only [w,seval,-Int.reduceToNat,t1a,t3a,H1a,bx7,ax7,fx7]
   ·replace hh:=aj hb8 hh
    have bx7:=aJ hx7
    have ax7:=aC (eI .i64) hx7
    have fx7:=aA (eI .i64) hx7
    simp only [cl] at ax7 fx7
    skip
    try simp only [w,seval,-Int.reduceToNat,t1a,t3a,H1a,bx7,ax7,fx7,bx7,ax7,fx7]
    refine ai (fun hb9 => ?_) (fun hb9 => ?_)
    ·replace hh:=ak hb9 hh
     cases hh
     try simp only [w,seval,-Int.reduceToNat,t1a,t3a,H1a,bx7,ax7,fx7,bx7,ax7,fx7]
     rw [dQ]
     refine ⟨_,rfl,?_⟩
     refine ⟨rfl,?_⟩
     try simp only [w,seval,-Int.reduceToNat,t1a,t3a,H1a,bx7,ax7,fx7,bx7,ax7,fx7]
    ·replace hh:=aj hb9 hh
     cases hh
     try simp only [w,seval,-Int.reduceToNat,t1a,t3a,H1a,bx7,ax7,fx7,bx7,ax7,fx7]
     rw [aK]
     refine ⟨_,rfl,?_⟩
     refine ⟨v1a,?_,?_,?_⟩
     all_goals (first | rfl | (simp only [w,seval,-Int.reduceToNat,t1a,t3a,H1a,bx7,ax7,fx7,bx7,ax7,fx7] <;> rfl))
  ·replace hh:=aj hb6 hh
   cases hh
   try simp only [w,seval,-Int.reduceToNat,t1a,t3a,H1a]
   rw [bk]
   refine ⟨_,rfl,?_⟩
   refine ⟨rfl,⟨v1a,?_,?_⟩⟩
   all_goals (first | rfl | (simp only [w,seval,-Int.reduceToNat,t1a,t3a,H1a] <;> rfl))
 ·rintro x t H e hx
  rcases o5 with _ | ra
  ·
   dsimp only at hx hh
   obtain ⟨rfl,⟨v1ax,t1ax,H1ax⟩⟩:=hx
   try simp only [w,seval,-Int.reduceToNat,t1ax,H1ax]
   obtain ⟨o10,ho10,hh⟩:=ae hh
   refine bV 0 (fun s t H e=>match s with | s44j2=>∃ v1j2:Nat,t 1 = .ptr 1 v1j2 0∧t 4 = .int .i64 (p0.aa.length:Int)∧t 44 = .bool s44j2∧H 1=some ⟨v1j2,49,[.int .i64 p0.ag,.sl false false p0.aa.length (ab (eI .i64) p0.aa)],false,false,false⟩) (fun s=>s=o10) ?_ ?_
   ·rintro s44j2 t H e ⟨v1j2,t1j2,t4j2,t44j2,H1j2⟩ rfl
    try dsimp only at hh
    try simp only [w,seval,-Int.reduceToNat,t1j2,t4j2,t44j2,H1j2]
    refine ai (fun hb11 => ?_) (fun hb11 => ?_)
    ·replace hh:=ak hb11 hh
     cases hh
     try simp only [w,seval,-Int.reduceToNat,t1j2,t4j2,t44j2,H1j2]
    ·replace hh:=aj hb11 hh
     try simp only [w,seval,-Int.reduceToNat,t1j2,t4j2,t44j2,H1j2]
     refine bj (fun hb12 => ?_) (fun hb12 => ?_)
     ·replace hh:=ak hb12 hh
      cases hh
      try simp only [w,seval,-Int.reduceToNat,t1j2,t4j2,t44j2,H1j2]
     ·replace hh:=aj hb12 hh
      obtain ⟨x13,hx13,hh⟩:=ae hh
      have bx13:=aJ hx13
      have ax13:=aC (eI .i64) hx13
      have fx13:=aA (eI .i64) hx13
      simp only [cl] at ax13 fx13
      skip
      cases hh
      try simp only [w,seval,-Int.reduceToNat,t1j2,t4j2,t44j2,H1j2,bx13,ax13,fx13]
   ·
    clear hh
    have hh:=ho10
    try simp only [w,seval,-Int.reduceToNat,t1ax,H1ax]
    refine bj (fun hb14 => ?_) (fun hb14 => ?_)
    ·replace hh:=ak hb14 hh
     cases hh
     try simp only [w,seval,-Int.reduceToNat,t1ax,H1ax]
     rw [an]
     refine ⟨_,rfl,?_⟩
     refine ⟨v1ax,?_,?_,?_,?_⟩
     all_goals (first | rfl | (simp only [w,seval,-Int.reduceToNat,t1ax,H1ax] <;> rfl))
    ·replace hh:=aj hb14 hh
     try simp only [w,seval,-Int.reduceToNat,t1ax,H1ax]
     refine bj (fun hb15 => ?_) (fun hb15 => ?_)
     ·replace hh:=ak hb15 hh
      cases hh
      try simp only [w,seval,-Int.reduceToNat,t1ax,H1ax]
      rw [an]
      refine ⟨_,rfl,?_⟩
      refine ⟨v1ax,?_,?_,?_,?_⟩
      all_goals (first | rfl | (simp only [w,seval,-Int.reduceToNat,t1ax,H1ax] <;> rfl))
     ·replace hh:=aj hb15 hh
      cases hh
      try simp only [w,seval,-Int.reduceToNat,t1ax,H1ax]
      rw [an]
      refine ⟨_,rfl,?_⟩
      refine ⟨v1ax,?_,?_,?_,?_⟩
      all_goals (first | rfl | (simp only [w,seval,-Int.reduceToNat,t1ax,H1ax] <;> rfl))
  ·
   dsimp only at hx hh
   obtain ⟨rfl,hE⟩:=hx
   cases hh
   try simp only [bo,bf,bG,cY,cX]
   exact hE
theorem mG:bW Tryz.prog 111 fl:=bW.of (mode := .clean) tok b7.none mixed Tryz.func111 (by kernel_rfl) ⟨by kernel_rfl,by kernel_rfl⟩ (fun _=>Nat.le_of_ble_eq_true (by kernel_rfl)) (fun x r h=>JL x r h)
noncomputable def td:=eZ (ef (dO ij)) (fun x:aw=>tE x) (fun r:aw => .clean (.agg [.int .i64 r.ag,.sl false false r.aa.length (ab (eI .i64) r.aa)]))
theorem FC (p0_0:Int) (p0_1:(List Int)):td none [.agg [.int .i64 p0_0,.sl false false p0_1.length (ab (eI .i64) p0_1)]]=(tE (aw.mk p0_0 p0_1)).map fun r:aw=>(.clean (.agg [.int .i64 r.ag,.sl false false r.aa.length (ab (eI .i64) r.aa)]),none):=aR _ _ _ ((aw.mk p0_0 p0_1))
noncomputable def xD:Env:=(Am.ext (Am.ext aB 111 false fl) 133 false gq)
theorem LA:b7 Tryz.prog xD:=((b7.none.add mG false).add od false)
theorem BO:xD=(Am.ext (Am.ext aB 111 false fl) 133 false gq):=Eq.trans rfl rfl
theorem yk:type_of% (And.intro @w <| And.intro @gS <| And.intro @jc <| @BO):=And.intro @w <| And.intro @gS <| And.intro @jc <| @BO
theorem Pu (p0:aw) (r:aw) (hh:tE p0=some r):aX .clean tab xD FU Tryz.f131 none [.agg [.int .i64 p0.ag,.sl false false p0.aa.length (ab (eI .i64) p0.aa)]]=some (.clean (.agg [.int .i64 r.ag,.sl false false r.aa.length (ab (eI .i64) r.aa)]),none):=by
 refine ay rfl Tryz.ntmps131 Tryz.results131 ?_
 unfold tE at hh
 obtain ⟨r1,hr1,hh⟩:=ae hh
 try simp only [yk,seval,-Int.reduceToNat,hr1]
 refine ai (fun hb2 => ?_) (fun hb2 => ?_)
 ·replace hh:=ak hb2 hh
  cases hh
  try simp only [yk,seval,-Int.reduceToNat,hr1]
 ·replace hh:=aj hb2 hh
  obtain ⟨r3,hr3,hh⟩:=ae hh
  cases hh
  try simp only [yk,seval,-Int.reduceToNat,hr1,hr3]
theorem Mc:bW Tryz.prog 131 td:=bW.of (mode := .clean) tok LA mixed Tryz.func131 (by kernel_rfl) ⟨by kernel_rfl,by kernel_rfl⟩ (fun _=>Nat.le_of_ble_eq_true (by kernel_rfl)) (fun x r h=>Pu x r h)
noncomputable def fm:=eZ (eg (ie (eI .i64)) (ef (aI .i64))) (fun x:(List Int)×Int=>fO x.1 x.2) (fun r:Int => .clean (.int .i64 r))
theorem gT (p0:(List Int)) (p1:Int):fm none [.sl false false p0.length (ab (eI .i64) p0),.int .i64 p1]=(fO p0 p1).map fun r:Int=>(.clean (.int .i64 r),none):=aR _ _ _ (p0,p1)
theorem JM (p0:(List Int)) (p1:Int) (r:Int) (hh:fO p0 p1=some r):aX .clean tab aB FU Tryz.f175 none [.sl false false p0.length (ab (eI .i64) p0),.int .i64 p1]=some (.clean (.int .i64 r),none):=by
 refine ay rfl Tryz.ntmps175 Tryz.results175 ?_
 unfold fO at hh
 try simp only [w,seval,-Int.reduceToNat]
 refine ai (fun hb1 => ?_) (fun hb1 => ?_)
 ·replace hh:=ak hb1 hh
  obtain ⟨x2,hx2,hh⟩:=ae hh
  have bx2:=aJ hx2
  have ax2:=aC (eI .i64) hx2
  have fx2:=aA (eI .i64) hx2
  simp only [cl] at ax2 fx2
  skip
  cases hh
  try simp only [w,seval,-Int.reduceToNat,bx2,ax2,fx2]
 ·replace hh:=aj hb1 hh
  cases hh
  try simp only [w,seval,-Int.reduceToNat]
theorem mH:bW Tryz.prog 175 fm:=bW.of (mode := .clean) tok b7.none mixed Tryz.func175 (by kernel_rfl) ⟨by kernel_rfl,by kernel_rfl⟩ (fun _=>Nat.le_of_ble_eq_true (by kernel_rfl)) (fun x r h=>JM x.1 x.2 r h)
noncomputable def nT:=eZ (eg (ie (eI .i64)) (ef (ie (eI .i64)))) (fun x:(List Int)×(List Int)=>jr x.1 x.2) (fun r:(List Int) => .clean (.sl false false r.length (ab (eI .i64) r)))
theorem sP (p0:(List Int)) (p1:(List Int)):nT none [.sl false false p0.length (ab (eI .i64) p0),.sl false false p1.length (ab (eI .i64) p1)]=(jr p0 p1).map fun r:(List Int)=>(.clean (.sl false false r.length (ab (eI .i64) r)),none):=aR _ _ _ (p0,p1)
noncomputable def sa:Env:=(Am.ext (Am.ext aB 169 false eU) 175 false fm)
theorem GG:b7 Tryz.prog sa:=((b7.none.add lT false).add mH false)
theorem wx:sa=(Am.ext (Am.ext aB 169 false eU) 175 false fm):=Eq.trans rfl rfl
theorem bY:type_of% (And.intro @w <| And.intro @fG <| And.intro @gT <| @wx):=And.intro @w <| And.intro @fG <| And.intro @gT <| @wx
theorem JO (p0:(List Int)) (p1:(List Int)) (r:(List Int)) (hh:jr p0 p1=some r):aX .clean tab sa FU Tryz.f154 none [.sl false false p0.length (ab (eI .i64) p0),.sl false false p1.length (ab (eI .i64) p1)]=some (.clean (.sl false false r.length (ab (eI .i64) r)),none):=by
 refine ay rfl Tryz.ntmps154 Tryz.results154 ?_
 unfold jr at hh
 obtain ⟨x1,hx1,hh⟩:=ae hh
 obtain ⟨q2a,q2b,q2c,q2d,q2e⟩:=mk_one (eI .i64) hx1
 simp only [cl] at q2d
 try simp only [bY,seval,-Int.reduceToNat,q2a,q2b,q2c,q2d,q2e]
 obtain ⟨o27,ho27,hh⟩:=ae hh
 refine aD (fun s t H e=>match s with | (s6a,l5a)=>∃ v5a:Nat,t 0 = .sl false false p0.length (ab (eI .i64) p0)∧t 1 = .sl false false p1.length (ab (eI .i64) p1)∧t 5 = .buf 5 v5a 1 0 (l5a).length∧t 6 = .int .i64 s6a∧H 5=some ⟨v5a,3,ab (eI .i64) l5a,false,true,false⟩) (fun o x t H e=>match o with | l5ax=>x = .exit 0∧∃ v5ax:Nat,t 5 = .buf 5 v5ax 1 0 (l5ax).length∧H 5=some ⟨v5ax,3,ab (eI .i64) l5ax,false,true,false⟩) ho27 ?_ ?_ ?_
 ·
  refine ⟨1,?_,?_,?_,?_,?_⟩
  all_goals (first | rfl | (simp only [bY,seval,-Int.reduceToNat,q2a,q2b,q2c,q2d,q2e] <;> rfl))
 ·rintro ⟨s6a,l5a⟩ t H e ⟨v5a,t0a,t1a,t5a,t6a,H5a⟩ c hh
  simp only [mP] at hh
  try simp only [bY,seval,-Int.reduceToNat,q2a,q2b,q2c,q2d,q2e,t0a,t1a,t5a,t6a,H5a]
  refine ai (fun hb28 => ?_) (fun hb28 => ?_)
  ·replace hh:=ak hb28 hh
   try simp only [bY,seval,-Int.reduceToNat,q2a,q2b,q2c,q2d,q2e,t0a,t1a,t5a,t6a,H5a]
   obtain ⟨o40,ho40,hh⟩:=ae hh
   refine aD (fun s t H e=>match s with | (s7e,s8e,l5e)=>∃ v5e:Nat,t 0 = .sl false false p0.length (ab (eI .i64) p0)∧t 1 = .sl false false p1.length (ab (eI .i64) p1)∧t 5 = .buf 5 v5e 1 0 (l5e).length∧t 6 = .int .i64 s6a∧t 7 = .int .i64 s7e∧t 8 = .int .i64 s8e∧H 5=some ⟨v5e,3,ab (eI .i64) l5e,false,true,false⟩) (fun o x t H e=>match o with | l5ex=>x = .exit 2∧∃ v5ex:Nat,t 0 = .sl false false p0.length (ab (eI .i64) p0)∧t 1 = .sl false false p1.length (ab (eI .i64) p1)∧t 5 = .buf 5 v5ex 1 0 (l5ex).length∧t 6 = .int .i64 s6a∧H 5=some ⟨v5ex,3,ab (eI .i64) l5ex,false,true,false⟩) ho40 ?_ ?_ ?_
   ·
    refine ⟨v5a,?_,?_,?_,?_,?_,?_,?_⟩
    all_goals (first | rfl | (simp only [bY,seval,-Int.reduceToNat,q2a,q2b,q2c,q2d,q2e,t0a,t1a,t5a,t6a,H5a] <;> rfl))
   ·rintro ⟨s7e,s8e,l5e⟩ t H e ⟨v5e,t0e,t1e,t5e,t6e,t7e,t8e,H5e⟩ c hh
    simp only [mQ] at hh
    try simp only [bY,seval,-Int.reduceToNat,q2a,q2b,q2c,q2d,q2e,t0e,t1e,t5e,t6e,t7e,t8e,H5e]
    obtain ⟨o41,ho41,hh⟩:=ae hh
    refine bV 0 (fun s t H e=>match s with | s29j7=>∃ v5j7:Nat,t 0 = .sl false false p0.length (ab (eI .i64) p0)∧t 1 = .sl false false p1.length (ab (eI .i64) p1)∧t 5 = .buf 5 v5j7 1 0 (l5e).length∧t 6 = .int .i64 s6a∧t 7 = .int .i64 s7e∧t 8 = .int .i64 s8e∧t 29 = .bool s29j7∧H 5=some ⟨v5j7,3,ab (eI .i64) l5e,false,true,false⟩) (fun s=>s=o41) ?_ ?_
    ·rintro s29j7 t H e ⟨v5j7,t0j7,t1j7,t5j7,t6j7,t7j7,t8j7,t29j7,H5j7⟩ rfl
     try dsimp only at hh
     try simp only [bY,seval,-Int.reduceToNat,q2a,q2b,q2c,q2d,q2e,t0j7,t1j7,t5j7,t6j7,t7j7,t8j7,t29j7,H5j7]
     refine ai (fun hb42 => ?_) (fun hb42 => ?_)
     ·replace hh:=ak hb42 hh
      obtain ⟨x43,hx43,hh⟩:=ae hh
      have bx43:=aJ hx43
      have ax43:=aC (eI .i64) hx43
      have fx43:=aA (eI .i64) hx43
      simp only [cl] at ax43 fx43
      skip
      obtain ⟨x44,hx44,hh⟩:=ae hh
      have bx44:=aJ hx44
      have ax44:=aC (eI .i64) hx44
      have fx44:=aA (eI .i64) hx44
      simp only [cl] at ax44 fx44
      skip
      obtain ⟨r45,hr45,hh⟩:=ae hh
      try simp only [bY,seval,-Int.reduceToNat,q2a,q2b,q2c,q2d,q2e,t0j7,t1j7,t5j7,t6j7,t7j7,t8j7,t29j7,H5j7,bx43,ax43,fx43,bx44,ax44,fx44,hr45]
      refine cI (by kernel_rfl) ?_
      obtain ⟨x46,hx46,hh⟩:=ae hh
      obtain ⟨q47a,q47b⟩:=qm hx46
      have bx43:=aJ hx43
      have ax43:=aC (eI .i64) hx43
      have fx43:=aA (eI .i64) hx43
      simp only [cl] at ax43 fx43
      skip
      have p48:=og (eI .i64) (x':=x46) (fo:=0) (cs:=[.int .i64 x46]) hx43 rfl (Nat.le_of_ble_eq_true rfl)
      simp only [cl,Nat.add_zero] at p48
      have up48:=p48
      simp only [putCells,List.length_cons,List.length_nil,Nat.zero_add,Nat.reduceAdd] at up48
      obtain ⟨x49,hx49,hh⟩:=ae hh
      obtain ⟨q50a,q50b⟩:=pU hx49
      cases hh
      try simp only [bY,seval,-Int.reduceToNat,q2a,q2b,q2c,q2d,q2e,t0j7,t1j7,t5j7,t6j7,t7j7,t8j7,t29j7,H5j7,bx43,ax43,fx43,bx44,ax44,fx44,hr45,q47a,q47b,bx43,ax43,fx43,p48,up48,q50a,q50b]
      rw [aK]
      refine ⟨_,rfl,?_⟩
      refine ⟨v5j7,?_,?_,?_,?_,?_,?_,?_⟩
      all_goals (first | rfl | (simp only [bY,seval,-Int.reduceToNat,q2a,q2b,q2c,q2d,q2e,t0j7,t1j7,t5j7,t6j7,t7j7,t8j7,t29j7,H5j7,bx43,ax43,fx43,bx44,ax44,fx44,hr45,q47a,q47b,bx43,ax43,fx43,p48,up48,q50a,q50b] <;> rfl))
     ·replace hh:=aj hb42 hh
      cases hh
      try simp only [bY,seval,-Int.reduceToNat,q2a,q2b,q2c,q2d,q2e,t0j7,t1j7,t5j7,t6j7,t7j7,t8j7,t29j7,H5j7]
      rw [bk]
      refine ⟨_,rfl,?_⟩
      refine ⟨rfl,⟨v5j7,?_,?_,?_,?_,?_⟩⟩
      all_goals (first | rfl | (simp only [bY,seval,-Int.reduceToNat,q2a,q2b,q2c,q2d,q2e,t0j7,t1j7,t5j7,t6j7,t7j7,t8j7,t29j7,H5j7] <;> rfl))
    ·
     clear hh
     have hh:=ho41
     try simp only [bY,seval,-Int.reduceToNat,q2a,q2b,q2c,q2d,q2e,t0e,t1e,t5e,t6e,t7e,t8e,H5e]
     refine bj (fun hb51 => ?_) (fun hb51 => ?_)
     ·replace hh:=ak hb51 hh
      cases hh
      try simp only [bY,seval,-Int.reduceToNat,q2a,q2b,q2c,q2d,q2e,t0e,t1e,t5e,t6e,t7e,t8e,H5e]
      rw [an]
      refine ⟨_,rfl,?_⟩
      refine ⟨v5e,?_,?_,?_,?_,?_,?_,?_,?_⟩
      all_goals (first | rfl | (simp only [bY,seval,-Int.reduceToNat,q2a,q2b,q2c,q2d,q2e,t0e,t1e,t5e,t6e,t7e,t8e,H5e] <;> rfl))
     ·replace hh:=aj hb51 hh
      cases hh
      try simp only [bY,seval,-Int.reduceToNat,q2a,q2b,q2c,q2d,q2e,t0e,t1e,t5e,t6e,t7e,t8e,H5e]
      rw [an]
      refine ⟨_,rfl,?_⟩
      refine ⟨v5e,?_,?_,?_,?_,?_,?_,?_,?_⟩
      all_goals (first | rfl | (simp only [bY,seval,-Int.reduceToNat,q2a,q2b,q2c,q2d,q2e,t0e,t1e,t5e,t6e,t7e,t8e,H5e] <;> rfl))
   ·rintro x t H e hx
    obtain ⟨l5ex,rfl⟩ : ∃ z,z=o40:=⟨_,rfl⟩
    dsimp only at hx hh
    obtain ⟨rfl,⟨v5ex,t0ex,t1ex,t5ex,t6ex,H5ex⟩⟩:=hx
    cases hh
    try simp only [bY,seval,-Int.reduceToNat,q2a,q2b,q2c,q2d,q2e,t0ex,t1ex,t5ex,t6ex,H5ex]
    rw [aK]
    refine ⟨_,rfl,?_⟩
    refine ⟨v5ex,?_,?_,?_,?_,?_⟩
    all_goals (first | rfl | (simp only [bY,seval,-Int.reduceToNat,q2a,q2b,q2c,q2d,q2e,t0ex,t1ex,t5ex,t6ex,H5ex] <;> rfl))
  ·replace hh:=aj hb28 hh
   cases hh
   try simp only [bY,seval,-Int.reduceToNat,q2a,q2b,q2c,q2d,q2e,t0a,t1a,t5a,t6a,H5a]
   rw [bk]
   refine ⟨_,rfl,?_⟩
   refine ⟨rfl,⟨v5a,?_,?_⟩⟩
   all_goals (first | rfl | (simp only [bY,seval,-Int.reduceToNat,q2a,q2b,q2c,q2d,q2e,t0a,t1a,t5a,t6a,H5a] <;> rfl))
 ·rintro x t H e hx
  obtain ⟨l5ax,rfl⟩ : ∃ z,z=o27:=⟨_,rfl⟩
  dsimp only at hx hh
  obtain ⟨rfl,⟨v5ax,t5ax,H5ax⟩⟩:=hx
  obtain ⟨r52,hr52,hh⟩:=ae hh
  cases hh
  try simp only [bY,seval,-Int.reduceToNat,q2a,q2b,q2c,q2d,q2e,t5ax,H5ax,hr52]
theorem Hc:bW Tryz.prog 154 nT:=bW.of (mode := .clean) tok GG mixed Tryz.func154 (by kernel_rfl) ⟨by kernel_rfl,by kernel_rfl⟩ (fun _=>Nat.le_of_ble_eq_true (by kernel_rfl)) (fun x r h=>JO x.1 x.2 r h)
noncomputable def pD:=eZ (eg (ie (eI .i64)) (ef (ie (eI .i64)))) (fun x:(List Int)×(List Int)=>lX x.1 x.2) (fun r:Bool => .clean (.bool r))
theorem Cv (p0:(List Int)) (p1:(List Int)):pD none [.sl false false p0.length (ab (eI .i64) p0),.sl false false p1.length (ab (eI .i64) p1)]=(lX p0 p1).map fun r:Bool=>(.clean (.bool r),none):=aR _ _ _ (p0,p1)
noncomputable def va:Env:=(Am.ext aB 175 false fm)
theorem I2:b7 Tryz.prog va:=(b7.none.add mH false)
theorem yS:va=(Am.ext aB 175 false fm):=Eq.trans rfl rfl
theorem gw:type_of% (And.intro @w <| And.intro @gT <| @yS):=And.intro @w <| And.intro @gT <| @yS
theorem LX (p0:(List Int)) (p1:(List Int)) (r:Bool) (hh:lX p0 p1=some r):aX .clean tab va FU Tryz.f153 none [.sl false false p0.length (ab (eI .i64) p0),.sl false false p1.length (ab (eI .i64) p1)]=some (.clean (.bool r),none):=by
 refine ay rfl Tryz.ntmps153 Tryz.results153 ?_
 unfold lX at hh
 try simp only [gw,seval,-Int.reduceToNat]
 obtain ⟨o5,ho5,hh⟩:=ae hh
 refine aD (fun s t H e=>match s with | s5a=>t 0 = .sl false false p0.length (ab (eI .i64) p0)∧t 1 = .sl false false p1.length (ab (eI .i64) p1)∧t 5 = .int .i64 s5a) (fun o x t H e=>match o with | (.inl _)=>x = .exit 0 | (.inr r)=>x = .ret∧gG .clean tab none [.tmp 4] ⟨t,H,e⟩=some (.clean (.bool r),none)) ho5 ?_ ?_ ?_
 ·
  refine ⟨?_,?_,?_⟩
  all_goals (first | rfl | (simp only [gw,seval,-Int.reduceToNat] <;> rfl))
 ·rintro s5a t H e ⟨t0a,t1a,t5a⟩ c hh
  simp only [ou] at hh
  try simp only [gw,seval,-Int.reduceToNat,t0a,t1a,t5a]
  refine ai (fun hb6 => ?_) (fun hb6 => ?_)
  ·replace hh:=ak hb6 hh
   obtain ⟨r7,hr7,hh⟩:=ae hh
   obtain ⟨r8,hr8,hh⟩:=ae hh
   try simp only [gw,seval,-Int.reduceToNat,t0a,t1a,t5a,hr7,hr8]
   refine ai (fun hb9 => ?_) (fun hb9 => ?_)
   ·replace hh:=ak hb9 hh
    cases hh
    try simp only [gw,seval,-Int.reduceToNat,t0a,t1a,t5a,hr7,hr8]
    rw [dQ]
    refine ⟨_,rfl,?_⟩
    refine ⟨rfl,?_⟩
    try simp only [gw,seval,-Int.reduceToNat,t0a,t1a,t5a,hr7,hr8]
   ·replace hh:=aj hb9 hh
    cases hh
    try simp only [gw,seval,-Int.reduceToNat,t0a,t1a,t5a,hr7,hr8]
    rw [aK]
    refine ⟨_,rfl,?_⟩
    refine ⟨?_,?_,?_⟩
    all_goals (first | rfl | (simp only [gw,seval,-Int.reduceToNat,t0a,t1a,t5a,hr7,hr8] <;> rfl))
  ·replace hh:=aj hb6 hh
   cases hh
   try simp only [gw,seval,-Int.reduceToNat,t0a,t1a,t5a]
   rw [bk]
   refine ⟨_,rfl,?_⟩
   exact rfl
 ·rintro x t H e hx
  rcases o5 with _ | ra
  ·
   dsimp only at hx hh
   subst hx
   cases hh
   try simp only [gw,seval,-Int.reduceToNat]
  ·
   dsimp only at hx hh
   obtain ⟨rfl,hE⟩:=hx
   cases hh
   try simp only [bo,bf,bG,cY,cX]
   exact hE
theorem Ke:bW Tryz.prog 153 pD:=bW.of (mode := .clean) tok I2 mixed Tryz.func153 (by kernel_rfl) ⟨by kernel_rfl,by kernel_rfl⟩ (fun _=>Nat.le_of_ble_eq_true (by kernel_rfl)) (fun x r h=>LX x.1 x.2 r h)
noncomputable def j0:=eZ (eg (ie (eI .i64)) (ef (ie (eI .i64)))) (fun x:(List Int)×(List Int)=>kd x.1 x.2) (fun r:(List Int) => .clean (.sl false false r.length (ab (eI .i64) r)))
theorem oq (p0:(List Int)) (p1:(List Int)):j0 none [.sl false false p0.length (ab (eI .i64) p0),.sl false false p1.length (ab (eI .i64) p1)]=(kd p0 p1).map fun r:(List Int)=>(.clean (.sl false false r.length (ab (eI .i64) r)),none):=aR _ _ _ (p0,p1)
noncomputable def rZ:Env:=(Am.ext (Am.ext aB 169 false eU) 175 false fm)
theorem GF:b7 Tryz.prog rZ:=((b7.none.add lT false).add mH false)
theorem wv:rZ=(Am.ext (Am.ext aB 169 false eU) 175 false fm):=Eq.trans rfl rfl
theorem eu:type_of% (And.intro @w <| And.intro @fG <| And.intro @gT <| @wv):=And.intro @w <| And.intro @fG <| And.intro @gT <| @wv
theorem JN (p0:(List Int)) (p1:(List Int)) (r:(List Int)) (hh:kd p0 p1=some r):aX .clean tab rZ FU Tryz.f168 none [.sl false false p0.length (ab (eI .i64) p0),.sl false false p1.length (ab (eI .i64) p1)]=some (.clean (.sl false false r.length (ab (eI .i64) r)),none):=by
 refine ay rfl Tryz.ntmps168 Tryz.results168 ?_
 unfold kd at hh
 try simp only [eu,seval,-Int.reduceToNat]
 obtain ⟨o9,ho9,hh⟩:=ae hh
 refine aD (fun s t H e=>match s with | (s6a,s7a,l5a)=>∃ v5a:Nat,t 0 = .sl false false p0.length (ab (eI .i64) p0)∧t 1 = .sl false false p1.length (ab (eI .i64) p1)∧t 5 = .buf 5 v5a 1 0 (l5a).length∧t 6 = .int .i64 s6a∧t 7 = .int .i64 s7a∧H 5=some ⟨v5a,3,ab (eI .i64) l5a,false,true,false⟩) (fun o x t H e=>match o with | l5ax=>x = .exit 0∧∃ v5ax:Nat,t 5 = .buf 5 v5ax 1 0 (l5ax).length∧H 5=some ⟨v5ax,3,ab (eI .i64) l5ax,false,true,false⟩) ho9 ?_ ?_ ?_
 ·
  refine ⟨1,?_,?_,?_,?_,?_,?_⟩
  all_goals (first | rfl | (simp only [eu,seval,-Int.reduceToNat] <;> rfl))
 ·rintro ⟨s6a,s7a,l5a⟩ t H e ⟨v5a,t0a,t1a,t5a,t6a,t7a,H5a⟩ c hh
  simp only [mO] at hh
  try simp only [eu,seval,-Int.reduceToNat,t0a,t1a,t5a,t6a,t7a,H5a]
  refine ai (fun hb10 => ?_) (fun hb10 => ?_)
  ·replace hh:=ak hb10 hh
   obtain ⟨x11,hx11,hh⟩:=ae hh
   have bx11:=aJ hx11
   have ax11:=aC (eI .i64) hx11
   have fx11:=aA (eI .i64) hx11
   simp only [cl] at ax11 fx11
   skip
   obtain ⟨r12,hr12,hh⟩:=ae hh
   try simp only [eu,seval,-Int.reduceToNat,t0a,t1a,t5a,t6a,t7a,H5a,bx11,ax11,fx11,hr12]
   refine cI (by kernel_rfl) ?_
   try simp only [eu,seval,-Int.reduceToNat,t0a,t1a,t5a,t6a,t7a,H5a,bx11,ax11,fx11,hr12]
   refine ai (fun hb13 => ?_) (fun hb13 => ?_)
   ·replace hh:=ak hb13 hh
    obtain ⟨x14,hx14,hh⟩:=ae hh
    obtain ⟨q15a,q15b,q15c,q15d⟩:=fS (eI .i64) hx14
    simp only [cl] at q15b
    cases hh
    try simp only [eu,seval,-Int.reduceToNat,t0a,t1a,t5a,t6a,t7a,H5a,bx11,ax11,fx11,hr12,q15a,q15b,q15c,q15d]
    rw [aK]
    refine ⟨_,rfl,?_⟩
    refine ⟨e+1+1+1+1+1+1,?_,?_,?_,?_,?_,?_⟩
    all_goals (first | rfl | (simp only [eu,seval,-Int.reduceToNat,t0a,t1a,t5a,t6a,t7a,H5a,bx11,ax11,fx11,hr12,q15a,q15b,q15c,q15d] <;> rfl))
   ·replace hh:=aj hb13 hh
    obtain ⟨x16,hx16,hh⟩:=ae hh
    obtain ⟨q17a,q17b,q17c,q17d⟩:=fS (eI .i64) hx16
    simp only [cl] at q17b
    cases hh
    try simp only [eu,seval,-Int.reduceToNat,t0a,t1a,t5a,t6a,t7a,H5a,bx11,ax11,fx11,hr12,q17a,q17b,q17c,q17d]
    rw [aK]
    refine ⟨_,rfl,?_⟩
    refine ⟨e+1+1+1+1,?_,?_,?_,?_,?_,?_⟩
    all_goals (first | rfl | (simp only [eu,seval,-Int.reduceToNat,t0a,t1a,t5a,t6a,t7a,H5a,bx11,ax11,fx11,hr12,q17a,q17b,q17c,q17d] <;> rfl))
  ·replace hh:=aj hb10 hh
   cases hh
   try simp only [eu,seval,-Int.reduceToNat,t0a,t1a,t5a,t6a,t7a,H5a]
   rw [bk]
   refine ⟨_,rfl,?_⟩
   refine ⟨rfl,⟨v5a,?_,?_⟩⟩
   all_goals (first | rfl | (simp only [eu,seval,-Int.reduceToNat,t0a,t1a,t5a,t6a,t7a,H5a] <;> rfl))
 ·rintro x t H e hx
  obtain ⟨l5ax,rfl⟩ : ∃ z,z=o9:=⟨_,rfl⟩
  dsimp only at hx hh
  obtain ⟨rfl,⟨v5ax,t5ax,H5ax⟩⟩:=hx
  obtain ⟨r18,hr18,hh⟩:=ae hh
  cases hh
  try simp only [eu,seval,-Int.reduceToNat,t5ax,H5ax,hr18]
theorem wL:bW Tryz.prog 168 j0:=bW.of (mode := .clean) tok GF mixed Tryz.func168 (by kernel_rfl) ⟨by kernel_rfl,by kernel_rfl⟩ (fun _=>Nat.le_of_ble_eq_true (by kernel_rfl)) (fun x r h=>JN x.1 x.2 r h)
noncomputable def kZ:=eZ (eg (ie (eI .i64)) (ef (ie (eI .i64)))) (fun x:(List Int)×(List Int)=>lY x.1 x.2) (fun r:(List Int)×(List Int) => .clean (.tup [.sl false false r.1.length (ab (eI .i64) r.1),.sl false false r.2.length (ab (eI .i64) r.2)]))
theorem qq (p0:(List Int)) (p1:(List Int)):kZ none [.sl false false p0.length (ab (eI .i64) p0),.sl false false p1.length (ab (eI .i64) p1)]=(lY p0 p1).map fun r:(List Int)×(List Int)=>(.clean (.tup [.sl false false r.1.length (ab (eI .i64) r.1),.sl false false r.2.length (ab (eI .i64) r.2)]),none):=aR _ _ _ (p0,p1)
noncomputable def vc:Env:=(Am.keep 7 (Am.ext (Am.ext (Am.ext (Am.ext aB 153 false pD) 154 false nT) 168 false j0) 169 false eU))
theorem I4:b7 Tryz.prog vc:=(b7.keep ((((b7.none.add Ke false).add Hc false).add wL false).add lT false) 7)
theorem yU:vc=(Am.keep 7 (Am.ext (Am.ext (Am.ext (Am.ext aB 153 false pD) 154 false nT) 168 false j0) 169 false eU)):=Eq.trans rfl rfl
theorem cU:type_of% (And.intro @w <| And.intro @Cv <| And.intro @sP <| And.intro @oq <| And.intro @fG <| @yU):=And.intro @w <| And.intro @Cv <| And.intro @sP <| And.intro @oq <| And.intro @fG <| @yU
theorem LZ (p0:(List Int)) (p1:(List Int)) (r:(List Int)×(List Int)) (hh:lY p0 p1=some r):aX .clean tab vc FU Tryz.f151 none [.sl false false p0.length (ab (eI .i64) p0),.sl false false p1.length (ab (eI .i64) p1)]=some (.clean (.tup [.sl false false r.1.length (ab (eI .i64) r.1),.sl false false r.2.length (ab (eI .i64) r.2)]),none):=by
 refine ay rfl Tryz.ntmps151 Tryz.results151 ?_
 unfold lY at hh
 obtain ⟨x1,hx1,hh⟩:=ae hh
 obtain ⟨q2a,q2b,q2c,q2d,q2e⟩:=mk_one (eI .i64) hx1
 simp only [cl] at q2d
 try simp only [cU,seval,-Int.reduceToNat,q2a,q2b,q2c,q2d,q2e]
 obtain ⟨o29,ho29,hh⟩:=ae hh
 refine aD (fun s t H e=>match s with | (s7a,s8a,l6a)=>∃ v6a:Nat,t 0 = .sl false false p0.length (ab (eI .i64) p0)∧t 1 = .sl false false p1.length (ab (eI .i64) p1)∧t 6 = .buf 6 v6a 1 0 (l6a).length∧t 7 = .sl false false s7a.length (ab (eI .i64) s7a)∧t 8 = .int .i64 s8a∧H 6=some ⟨v6a,3,ab (eI .i64) l6a,false,true,false⟩) (fun o x t H e=>match o with | (s7ax,l6ax)=>x = .exit 0∧∃ v6ax:Nat,t 6 = .buf 6 v6ax 1 0 (l6ax).length∧t 7 = .sl false false s7ax.length (ab (eI .i64) s7ax)∧H 6=some ⟨v6ax,3,ab (eI .i64) l6ax,false,true,false⟩) ho29 ?_ ?_ ?_
 ·
  refine ⟨1,?_,?_,?_,?_,?_,?_⟩
  all_goals (first | rfl | (simp only [cU,seval,-Int.reduceToNat,q2a,q2b,q2c,q2d,q2e] <;> rfl))
 ·rintro ⟨s7a,s8a,l6a⟩ t H e ⟨v6a,t0a,t1a,t6a,t7a,t8a,H6a⟩ c hh
  simp only [ov] at hh
  try simp only [cU,seval,-Int.reduceToNat,q2a,q2b,q2c,q2d,q2e,t0a,t1a,t6a,t7a,t8a,H6a]
  refine ai (fun hb30 => ?_) (fun hb30 => ?_)
  ·replace hh:=ak hb30 hh
   obtain ⟨x31,hx31,hh⟩:=ae hh
   have bx31:=aJ hx31
   have ax31:=aC (eI .i64) hx31
   have fx31:=aA (eI .i64) hx31
   simp only [cl] at ax31 fx31
   skip
   obtain ⟨x32,hx32,hh⟩:=ae hh
   obtain ⟨q33a,q33b,q33c,q33d⟩:=M8 (eI .i64) hx32
   simp only [aS,cl,List.length_cons,Nat.zero_add,Nat.reduceAdd] at q33a q33b
   obtain ⟨r34,hr34,hh⟩:=ae hh
   try simp only [cU,seval,-Int.reduceToNat,q2a,q2b,q2c,q2d,q2e,t0a,t1a,t6a,t7a,t8a,H6a,bx31,ax31,fx31,q33a,q33b,q33c,q33d,hr34]
   obtain ⟨o42,ho42,hh⟩:=ae hh
   refine aD (fun s t H e=>match s with | (s9c,s10c)=>∃ v6c:Nat,t 0 = .sl false false p0.length (ab (eI .i64) p0)∧t 1 = .sl false false p1.length (ab (eI .i64) p1)∧t 6 = .buf 6 v6c 1 0 (l6a).length∧t 7 = .sl false false r34.length (ab (eI .i64) r34)∧t 8 = .int .i64 s8a∧t 9 = .int .i64 s9c∧t 10 = .int .i64 s10c∧H 6=some ⟨v6c,3,ab (eI .i64) l6a,false,true,false⟩) (fun o x t H e=>match o with | s9cx=>x = .exit 2∧∃ v6cx:Nat,t 0 = .sl false false p0.length (ab (eI .i64) p0)∧t 1 = .sl false false p1.length (ab (eI .i64) p1)∧t 6 = .buf 6 v6cx 1 0 (l6a).length∧t 7 = .sl false false r34.length (ab (eI .i64) r34)∧t 8 = .int .i64 s8a∧t 9 = .int .i64 s9cx∧H 6=some ⟨v6cx,3,ab (eI .i64) l6a,false,true,false⟩) ho42 ?_ ?_ ?_
   ·
    refine ⟨v6a,?_,?_,?_,?_,?_,?_,?_,?_⟩
    all_goals (first | rfl | (simp only [cU,seval,-Int.reduceToNat,q2a,q2b,q2c,q2d,q2e,t0a,t1a,t6a,t7a,t8a,H6a,bx31,ax31,fx31,q33a,q33b,q33c,q33d,hr34] <;> rfl))
   ·rintro ⟨s9c,s10c⟩ t H e ⟨v6c,t0c,t1c,t6c,t7c,t8c,t9c,t10c,H6c⟩ c hh
    simp only [lZ] at hh
    try simp only [cU,seval,-Int.reduceToNat,q2a,q2b,q2c,q2d,q2e,bx31,ax31,fx31,q33a,q33b,q33c,q33d,hr34,t0c,t1c,t6c,t7c,t8c,t9c,t10c,H6c]
    refine ai (fun hb43 => ?_) (fun hb43 => ?_)
    ·replace hh:=ak hb43 hh
     obtain ⟨x44,hx44,hh⟩:=ae hh
     obtain ⟨q45a,q45b⟩:=pU hx44
     have i46:=sP p1 ([x44])
     simp only [aS,cl,List.length_cons,List.length_nil,Nat.zero_add,Nat.reduceAdd,List.length_set] at i46
     obtain ⟨r47,hr47,hh⟩:=ae hh
     obtain ⟨r48,hr48,hh⟩:=ae hh
     try simp only [cU,seval,-Int.reduceToNat,q2a,q2b,q2c,q2d,q2e,bx31,ax31,fx31,q33a,q33b,q33c,q33d,hr34,t0c,t1c,t6c,t7c,t8c,t9c,t10c,H6c,q45a,q45b,i46,hr47,hr48]
     refine ai (fun hb49 => ?_) (fun hb49 => ?_)
     ·replace hh:=ak hb49 hh
      cases hh
      try simp only [cU,seval,-Int.reduceToNat,q2a,q2b,q2c,q2d,q2e,bx31,ax31,fx31,q33a,q33b,q33c,q33d,hr34,t0c,t1c,t6c,t7c,t8c,t9c,t10c,H6c,q45a,q45b,i46,hr47,hr48]
      rw [aK]
      refine ⟨_,rfl,?_⟩
      refine ⟨v6c,?_,?_,?_,?_,?_,?_,?_,?_⟩
      all_goals (first | rfl | (simp only [cU,seval,-Int.reduceToNat,q2a,q2b,q2c,q2d,q2e,bx31,ax31,fx31,q33a,q33b,q33c,q33d,hr34,t0c,t1c,t6c,t7c,t8c,t9c,t10c,H6c,q45a,q45b,i46,hr47,hr48] <;> rfl))
     ·replace hh:=aj hb49 hh
      cases hh
      try simp only [cU,seval,-Int.reduceToNat,q2a,q2b,q2c,q2d,q2e,bx31,ax31,fx31,q33a,q33b,q33c,q33d,hr34,t0c,t1c,t6c,t7c,t8c,t9c,t10c,H6c,q45a,q45b,i46,hr47,hr48]
      rw [aK]
      refine ⟨_,rfl,?_⟩
      refine ⟨v6c,?_,?_,?_,?_,?_,?_,?_,?_⟩
      all_goals (first | rfl | (simp only [cU,seval,-Int.reduceToNat,q2a,q2b,q2c,q2d,q2e,bx31,ax31,fx31,q33a,q33b,q33c,q33d,hr34,t0c,t1c,t6c,t7c,t8c,t9c,t10c,H6c,q45a,q45b,i46,hr47,hr48] <;> rfl))
    ·replace hh:=aj hb43 hh
     cases hh
     try simp only [cU,seval,-Int.reduceToNat,q2a,q2b,q2c,q2d,q2e,bx31,ax31,fx31,q33a,q33b,q33c,q33d,hr34,t0c,t1c,t6c,t7c,t8c,t9c,t10c,H6c]
     rw [bk]
     refine ⟨_,rfl,?_⟩
     refine ⟨rfl,⟨v6c,?_,?_,?_,?_,?_,?_,?_⟩⟩
     all_goals (first | rfl | (simp only [cU,seval,-Int.reduceToNat,q2a,q2b,q2c,q2d,q2e,bx31,ax31,fx31,q33a,q33b,q33c,q33d,hr34,t0c,t1c,t6c,t7c,t8c,t9c,t10c,H6c] <;> rfl))
   ·rintro x t H e hx
    obtain ⟨s9cx,rfl⟩ : ∃ z,z=o42:=⟨_,rfl⟩
    dsimp only at hx hh
    obtain ⟨rfl,⟨v6cx,t0cx,t1cx,t6cx,t7cx,t8cx,t9cx,H6cx⟩⟩:=hx
    obtain ⟨x50,hx50,hh⟩:=ae hh
    have bx50:=aJ hx50
    have ax50:=aC (eI .i64) hx50
    have fx50:=aA (eI .i64) hx50
    simp only [cl] at ax50 fx50
    skip
    have p51:=og (eI .i64) (x':=s9cx) (fo:=0) (cs:=[.int .i64 s9cx]) hx50 rfl (Nat.le_of_ble_eq_true rfl)
    simp only [cl,Nat.add_zero] at p51
    have up51:=p51
    simp only [putCells,List.length_cons,List.length_nil,Nat.zero_add,Nat.reduceAdd] at up51
    have i52:=fG ([s9cx])
    simp only [aS,cl,List.length_cons,List.length_nil,Nat.zero_add,Nat.reduceAdd,List.length_set] at i52
    obtain ⟨r53,hr53,hh⟩:=ae hh
    obtain ⟨r54,hr54,hh⟩:=ae hh
    obtain ⟨r55,hr55,hh⟩:=ae hh
    cases hh
    try simp only [cU,seval,-Int.reduceToNat,q2a,q2b,q2c,q2d,q2e,bx31,ax31,fx31,q33a,q33b,q33c,q33d,hr34,t0cx,t1cx,t6cx,t7cx,t8cx,t9cx,H6cx,bx50,ax50,fx50,p51,up51,i52,hr53,hr54,hr55]
    rw [aK]
    refine ⟨_,rfl,?_⟩
    refine ⟨v6cx,?_,?_,?_,?_,?_,?_⟩
    all_goals (first | rfl | (simp only [cU,seval,-Int.reduceToNat,q2a,q2b,q2c,q2d,q2e,bx31,ax31,fx31,q33a,q33b,q33c,q33d,hr34,t0cx,t1cx,t6cx,t7cx,t8cx,t9cx,H6cx,bx50,ax50,fx50,p51,up51,i52,hr53,hr54,hr55] <;> rfl))
  ·replace hh:=aj hb30 hh
   cases hh
   try simp only [cU,seval,-Int.reduceToNat,q2a,q2b,q2c,q2d,q2e,t0a,t1a,t6a,t7a,t8a,H6a]
   rw [bk]
   refine ⟨_,rfl,?_⟩
   refine ⟨rfl,⟨v6a,?_,?_,?_⟩⟩
   all_goals (first | rfl | (simp only [cU,seval,-Int.reduceToNat,q2a,q2b,q2c,q2d,q2e,t0a,t1a,t6a,t7a,t8a,H6a] <;> rfl))
 ·rintro x t H e hx
  rcases o29 with ⟨s7ax,l6ax⟩
  dsimp only at hx hh
  obtain ⟨rfl,⟨v6ax,t6ax,t7ax,H6ax⟩⟩:=hx
  obtain ⟨r56,hr56,hh⟩:=ae hh
  cases hh
  try simp only [cU,seval,-Int.reduceToNat,q2a,q2b,q2c,q2d,q2e,t6ax,t7ax,H6ax,hr56]
theorem y3:bW Tryz.prog 151 kZ:=bW.of (mode := .clean) tok I4 mixed Tryz.func151 (by kernel_rfl) ⟨by kernel_rfl,by kernel_rfl⟩ (fun _=>Nat.le_of_ble_eq_true (by kernel_rfl)) (fun x r h=>LZ x.1 x.2 r h)
noncomputable def s9:=eZ (eg (dO ij) (ef (dO ij))) (fun x:aw×aw=>ot x.1 x.2) (fun r:aw×Int => .clean (.tup [.agg [.int .i64 r.1.ag,.sl false false r.1.aa.length (ab (eI .i64) r.1.aa)],.int .i64 r.2]))
theorem FB (p0_0:Int) (p0_1:(List Int)) (p1_0:Int) (p1_1:(List Int)):s9 none [.agg [.int .i64 p0_0,.sl false false p0_1.length (ab (eI .i64) p0_1)],.agg [.int .i64 p1_0,.sl false false p1_1.length (ab (eI .i64) p1_1)]]=(ot (aw.mk p0_0 p0_1) (aw.mk p1_0 p1_1)).map fun r:aw×Int=>(.clean (.tup [.agg [.int .i64 r.1.ag,.sl false false r.1.aa.length (ab (eI .i64) r.1.aa)],.int .i64 r.2]),none):=aR _ _ _ ((aw.mk p0_0 p0_1),(aw.mk p1_0 p1_1))
noncomputable def xC:Env:=(Am.ext (Am.ext (Am.ext aB 111 false fl) 133 false gq) 151 false kZ)
theorem Ly:b7 Tryz.prog xC:=(((b7.none.add mG false).add od false).add y3 false)
theorem BN:xC=(Am.ext (Am.ext (Am.ext aB 111 false fl) 133 false gq) 151 false kZ):=Eq.trans rfl rfl
theorem eo:type_of% (And.intro @w <| And.intro @gS <| And.intro @jc <| And.intro @qq <| @BN):=And.intro @w <| And.intro @gS <| And.intro @jc <| And.intro @qq <| @BN
theorem Pt (p0:aw) (p1:aw) (r:aw×Int) (hh:ot p0 p1=some r):aX .clean tab xC FU Tryz.f112 none [.agg [.int .i64 p0.ag,.sl false false p0.aa.length (ab (eI .i64) p0.aa)],.agg [.int .i64 p1.ag,.sl false false p1.aa.length (ab (eI .i64) p1.aa)]]=some (.clean (.tup [.agg [.int .i64 r.1.ag,.sl false false r.1.aa.length (ab (eI .i64) r.1.aa)],.int .i64 r.2]),none):=by
 refine ay rfl Tryz.ntmps112 Tryz.results112 ?_
 unfold ot at hh
 obtain ⟨r1,hr1,hh⟩:=ae hh
 try simp only [eo,seval,-Int.reduceToNat,hr1]
 obtain ⟨o2,ho2,hh⟩:=ae hh
 refine bV 0 (fun s t H e=>match s with | s17j1=>∃ v2j1:Nat,∃ v3j1:Nat,∃ v4j1:Nat,t 2 = .ptr 2 v2j1 0∧t 3 = .ptr 3 v3j1 0∧t 4 = .ptr 4 v4j1 0∧t 17 = .bool s17j1∧H 2=some ⟨v2j1,49,[.int .i64 p0.ag,.sl false false p0.aa.length (ab (eI .i64) p0.aa)],false,false,false⟩∧H 3=some ⟨v3j1,49,[.int .i64 p1.ag,.sl false false p1.aa.length (ab (eI .i64) p1.aa)],false,false,false⟩∧H 4=some ⟨v4j1,49,[.int .i64 0,.sl true true 0 []],false,false,false⟩) (fun s=>s=o2) ?_ ?_
 ·rintro s17j1 t H e ⟨v2j1,v3j1,v4j1,t2j1,t3j1,t4j1,t17j1,H2j1,H3j1,H4j1⟩ rfl
  try dsimp only at hh
  try simp only [eo,seval,-Int.reduceToNat,hr1,t2j1,t3j1,t4j1,t17j1,H2j1,H3j1,H4j1]
  refine ai (fun hb3 => ?_) (fun hb3 => ?_)
  ·replace hh:=ak hb3 hh
   cases hh
   try simp only [eo,seval,-Int.reduceToNat,hr1,t2j1,t3j1,t4j1,t17j1,H2j1,H3j1,H4j1]
  ·replace hh:=aj hb3 hh
   try simp only [eo,seval,-Int.reduceToNat,hr1,t2j1,t3j1,t4j1,t17j1,H2j1,H3j1,H4j1]
   obtain ⟨o6,ho6,hh⟩:=ae hh
   refine aD (fun s t H e=>match s with | (s6b,s7b)=>∃ v4b:Nat,t 4 = .ptr 4 v4b 0∧t 6 = .sl false false s6b.length (ab (eI .i64) s6b)∧t 7 = .sl false false s7b.length (ab (eI .i64) s7b)∧H 4=some ⟨v4b,49,[.int .i64 0,.sl true true 0 []],false,false,false⟩) (fun o x t H e=>match o with | s6bx=>x = .exit 0∧∃ v4bx:Nat,t 4 = .ptr 4 v4bx 0∧t 6 = .sl false false s6bx.length (ab (eI .i64) s6bx)∧H 4=some ⟨v4bx,49,[.int .i64 0,.sl true true 0 []],false,false,false⟩) ho6 ?_ ?_ ?_
   ·
    refine ⟨v4j1,?_,?_,?_,?_⟩
    all_goals (first | rfl | (simp only [eo,seval,-Int.reduceToNat,hr1,t2j1,t3j1,t4j1,t17j1,H2j1,H3j1,H4j1] <;> rfl))
   ·rintro ⟨s6b,s7b⟩ t H e ⟨v4b,t4b,t6b,t7b,H4b⟩ c hh
    simp only [nG] at hh
    try simp only [eo,seval,-Int.reduceToNat,hr1,t4b,t6b,t7b,H4b]
    refine ai (fun hb7 => ?_) (fun hb7 => ?_)
    ·replace hh:=ak hb7 hh
     obtain ⟨r8,hr8,hh⟩:=ae hh
     cases hh
     try simp only [eo,seval,-Int.reduceToNat,hr1,t4b,t6b,t7b,H4b,hr8]
     rw [aK]
     refine ⟨_,rfl,?_⟩
     refine ⟨v4b,?_,?_,?_,?_⟩
     all_goals (first | rfl | (simp only [eo,seval,-Int.reduceToNat,hr1,t4b,t6b,t7b,H4b,hr8] <;> rfl))
    ·replace hh:=aj hb7 hh
     cases hh
     try simp only [eo,seval,-Int.reduceToNat,hr1,t4b,t6b,t7b,H4b]
     rw [bk]
     refine ⟨_,rfl,?_⟩
     refine ⟨rfl,⟨v4b,?_,?_,?_⟩⟩
     all_goals (first | rfl | (simp only [eo,seval,-Int.reduceToNat,hr1,t4b,t6b,t7b,H4b] <;> rfl))
   ·rintro x t H e hx
    obtain ⟨s6bx,rfl⟩ : ∃ z,z=o6:=⟨_,rfl⟩
    dsimp only at hx hh
    obtain ⟨rfl,⟨v4bx,t4bx,t6bx,H4bx⟩⟩:=hx
    obtain ⟨r9,hr9,hh⟩:=ae hh
    cases hh
    try simp only [eo,seval,-Int.reduceToNat,hr1,t4bx,t6bx,H4bx,hr9]
 ·
  clear hh
  have hh:=ho2
  try simp only [eo,seval,-Int.reduceToNat,hr1]
  refine bj (fun hb10 => ?_) (fun hb10 => ?_)
  ·replace hh:=ak hb10 hh
   cases hh
   try simp only [eo,seval,-Int.reduceToNat,hr1]
   rw [an]
   refine ⟨_,rfl,?_⟩
   refine ⟨0,0,0,?_,?_,?_,?_,?_,?_,?_⟩
   all_goals (first | rfl | (simp only [eo,seval,-Int.reduceToNat,hr1] <;> rfl))
  ·replace hh:=aj hb10 hh
   obtain ⟨r11,hr11,hh⟩:=ae hh
   cases hh
   try simp only [eo,seval,-Int.reduceToNat,hr1,hr11]
   rw [an]
   refine ⟨_,rfl,?_⟩
   refine ⟨0,0,0,?_,?_,?_,?_,?_,?_,?_⟩
   all_goals (first | rfl | (simp only [eo,seval,-Int.reduceToNat,hr1,hr11] <;> rfl))
theorem Mb:bW Tryz.prog 112 s9:=bW.of (mode := .clean) tok Ly mixed Tryz.func112 (by kernel_rfl) ⟨by kernel_rfl,by kernel_rfl⟩ (fun _=>Nat.le_of_ble_eq_true (by kernel_rfl)) (fun x r h=>Pt x.1 x.2 r h)
noncomputable def pE:=eZ (eg (ie (eI .i64)) (ef (ie (eI .i64)))) (fun x:(List Int)×(List Int)=>sS x.1 x.2) (fun r:(List Int) => .clean (.sl false false r.length (ab (eI .i64) r)))
theorem vq (p0:(List Int)) (p1:(List Int)):pE none [.sl false false p0.length (ab (eI .i64) p0),.sl false false p1.length (ab (eI .i64) p1)]=(sS p0 p1).map fun r:(List Int)=>(.clean (.sl false false r.length (ab (eI .i64) r)),none):=aR _ _ _ (p0,p1)
noncomputable def vd:Env:=(Am.ext (Am.ext aB 169 false eU) 175 false fm)
theorem I5:b7 Tryz.prog vd:=((b7.none.add lT false).add mH false)
theorem yV:vd=(Am.ext (Am.ext aB 169 false eU) 175 false fm):=Eq.trans rfl rfl
theorem df:type_of% (And.intro @w <| And.intro @fG <| And.intro @gT <| @yV):=And.intro @w <| And.intro @fG <| And.intro @gT <| @yV
theorem L0 (p0:(List Int)) (p1:(List Int)) (r:(List Int)) (hh:sS p0 p1=some r):aX .clean tab vd FU Tryz.f167 none [.sl false false p0.length (ab (eI .i64) p0),.sl false false p1.length (ab (eI .i64) p1)]=some (.clean (.sl false false r.length (ab (eI .i64) r)),none):=by
 refine ay rfl Tryz.ntmps167 Tryz.results167 ?_
 unfold sS at hh
 try simp only [df,seval,-Int.reduceToNat]
 obtain ⟨o13,ho13,hh⟩:=ae hh
 refine aD (fun s t H e=>match s with | (s6a,s7a,l5a)=>∃ v5a:Nat,t 0 = .sl false false p0.length (ab (eI .i64) p0)∧t 1 = .sl false false p1.length (ab (eI .i64) p1)∧t 5 = .buf 5 v5a 1 0 (l5a).length∧t 6 = .int .i64 s6a∧t 7 = .int .i64 s7a∧H 5=some ⟨v5a,3,ab (eI .i64) l5a,false,true,false⟩) (fun o x t H e=>match o with | l5ax=>x = .exit 0∧∃ v5ax:Nat,t 5 = .buf 5 v5ax 1 0 (l5ax).length∧H 5=some ⟨v5ax,3,ab (eI .i64) l5ax,false,true,false⟩) ho13 ?_ ?_ ?_
 ·
  refine ⟨1,?_,?_,?_,?_,?_,?_⟩
  all_goals (first | rfl | (simp only [df,seval,-Int.reduceToNat] <;> rfl))
 ·rintro ⟨s6a,s7a,l5a⟩ t H e ⟨v5a,t0a,t1a,t5a,t6a,t7a,H5a⟩ c hh
  simp only [zg] at hh
  try simp only [df,seval,-Int.reduceToNat,t0a,t1a,t5a,t6a,t7a,H5a]
  obtain ⟨o14,ho14,hh⟩:=ae hh
  refine bV 0 (fun s t H e=>match s with | s22j3=>∃ v5j3:Nat,t 0 = .sl false false p0.length (ab (eI .i64) p0)∧t 1 = .sl false false p1.length (ab (eI .i64) p1)∧t 5 = .buf 5 v5j3 1 0 (l5a).length∧t 6 = .int .i64 s6a∧t 7 = .int .i64 s7a∧t 22 = .bool s22j3∧H 5=some ⟨v5j3,3,ab (eI .i64) l5a,false,true,false⟩) (fun s=>s=o14) ?_ ?_
  ·rintro s22j3 t H e ⟨v5j3,t0j3,t1j3,t5j3,t6j3,t7j3,t22j3,H5j3⟩ rfl
   try dsimp only at hh
   try simp only [df,seval,-Int.reduceToNat,t0j3,t1j3,t5j3,t6j3,t7j3,t22j3,H5j3]
   refine ai (fun hb15 => ?_) (fun hb15 => ?_)
   ·replace hh:=ak hb15 hh
    obtain ⟨r16,hr16,hh⟩:=ae hh
    obtain ⟨r17,hr17,hh⟩:=ae hh
    obtain ⟨x18,hx18,hh⟩:=ae hh
    obtain ⟨q19a,q19b⟩:=qm hx18
    obtain ⟨x20,hx20,hh⟩:=ae hh
    obtain ⟨q21a,q21b,q21c,q21d⟩:=fS (eI .i64) hx20
    simp only [cl] at q21b
    obtain ⟨x22,hx22,hh⟩:=ae hh
    obtain ⟨q23a,q23b⟩:=pU hx22
    cases hh
    try simp only [df,seval,-Int.reduceToNat,t0j3,t1j3,t5j3,t6j3,t7j3,t22j3,H5j3,hr16,hr17,q19a,q19b,q21a,q21b,q21c,q21d,q23a,q23b]
    rw [aK]
    refine ⟨_,rfl,?_⟩
    refine ⟨e+1,?_,?_,?_,?_,?_,?_⟩
    all_goals (first | rfl | (simp only [df,seval,-Int.reduceToNat,t0j3,t1j3,t5j3,t6j3,t7j3,t22j3,H5j3,hr16,hr17,q19a,q19b,q21a,q21b,q21c,q21d,q23a,q23b] <;> rfl))
   ·replace hh:=aj hb15 hh
    cases hh
    try simp only [df,seval,-Int.reduceToNat,t0j3,t1j3,t5j3,t6j3,t7j3,t22j3,H5j3]
    rw [bk]
    refine ⟨_,rfl,?_⟩
    refine ⟨rfl,⟨v5j3,?_,?_⟩⟩
    all_goals (first | rfl | (simp only [df,seval,-Int.reduceToNat,t0j3,t1j3,t5j3,t6j3,t7j3,t22j3,H5j3] <;> rfl))
  ·
   clear hh
   have hh:=ho14
   try simp only [df,seval,-Int.reduceToNat,t0a,t1a,t5a,t6a,t7a,H5a]
   refine bj (fun hb24 => ?_) (fun hb24 => ?_)
   ·replace hh:=ak hb24 hh
    cases hh
    try simp only [df,seval,-Int.reduceToNat,t0a,t1a,t5a,t6a,t7a,H5a]
    rw [an]
    refine ⟨_,rfl,?_⟩
    refine ⟨v5a,?_,?_,?_,?_,?_,?_,?_⟩
    all_goals (first | rfl | (simp only [df,seval,-Int.reduceToNat,t0a,t1a,t5a,t6a,t7a,H5a] <;> rfl))
   ·replace hh:=aj hb24 hh
    try simp only [df,seval,-Int.reduceToNat,t0a,t1a,t5a,t6a,t7a,H5a]
    refine bj (fun hb25 => ?_) (fun hb25 => ?_)
    ·replace hh:=ak hb25 hh
     cases hh
     try simp only [df,seval,-Int.reduceToNat,t0a,t1a,t5a,t6a,t7a,H5a]
     rw [an]
     refine ⟨_,rfl,?_⟩
     refine ⟨v5a,?_,?_,?_,?_,?_,?_,?_⟩
     all_goals (first | rfl | (simp only [df,seval,-Int.reduceToNat,t0a,t1a,t5a,t6a,t7a,H5a] <;> rfl))
    ·replace hh:=aj hb25 hh
     cases hh
     try simp only [df,seval,-Int.reduceToNat,t0a,t1a,t5a,t6a,t7a,H5a]
     rw [an]
     refine ⟨_,rfl,?_⟩
     refine ⟨v5a,?_,?_,?_,?_,?_,?_,?_⟩
     all_goals (first | rfl | (simp only [df,seval,-Int.reduceToNat,t0a,t1a,t5a,t6a,t7a,H5a] <;> rfl))
 ·rintro x t H e hx
  obtain ⟨l5ax,rfl⟩ : ∃ z,z=o13:=⟨_,rfl⟩
  dsimp only at hx hh
  obtain ⟨rfl,⟨v5ax,t5ax,H5ax⟩⟩:=hx
  obtain ⟨r26,hr26,hh⟩:=ae hh
  cases hh
  try simp only [df,seval,-Int.reduceToNat,t5ax,H5ax,hr26]
theorem Kf:bW Tryz.prog 167 pE:=bW.of (mode := .clean) tok I5 mixed Tryz.func167 (by kernel_rfl) ⟨by kernel_rfl,by kernel_rfl⟩ (fun _=>Nat.le_of_ble_eq_true (by kernel_rfl)) (fun x r h=>L0 x.1 x.2 r h)
end Go.Proofs.YtpkahnkoecbndaaGreatDoor.Am
namespace Go.Proofs.YtpkahnkoecbndaaGreatDoor.Am
open Go.RowKit Go.Proofs.YtpkahnkoecbndaaGreatDoor.P
set_option maxRecDepth 100000
set_option maxHeartbeats 4000000
set_option linter.unusedSimpArgs false
set_option linter.unusedVariables false
noncomputable def s8:=eZ (eg (dO ij) (ef (dO ij))) (fun x:aw×aw=>tC x.1 x.2) (fun r:aw×aw×Int => .clean (.tup [.agg [.int .i64 r.1.ag,.sl false false r.1.aa.length (ab (eI .i64) r.1.aa)],.agg [.int .i64 r.2.1.ag,.sl false false r.2.1.aa.length (ab (eI .i64) r.2.1.aa)],.int .i64 r.2.2]))
theorem FA (p0_0:Int) (p0_1:(List Int)) (p1_0:Int) (p1_1:(List Int)):s8 none [.agg [.int .i64 p0_0,.sl false false p0_1.length (ab (eI .i64) p0_1)],.agg [.int .i64 p1_0,.sl false false p1_1.length (ab (eI .i64) p1_1)]]=(tC (aw.mk p0_0 p0_1) (aw.mk p1_0 p1_1)).map fun r:aw×aw×Int=>(.clean (.tup [.agg [.int .i64 r.1.ag,.sl false false r.1.aa.length (ab (eI .i64) r.1.aa)],.agg [.int .i64 r.2.1.ag,.sl false false r.2.1.aa.length (ab (eI .i64) r.2.1.aa)],.int .i64 r.2.2]),none):=aR _ _ _ ((aw.mk p0_0 p0_1),(aw.mk p1_0 p1_1))
noncomputable def xB:Env:=(Am.ext (Am.ext (Am.ext (Am.ext (Am.ext aB 111 false fl) 133 false gq) 151 false kZ) 167 false pE) 168 false j0)
theorem Lx:b7 Tryz.prog xB:=(((((b7.none.add mG false).add od false).add y3 false).add Kf false).add wL false)
theorem BM:xB=(Am.ext (Am.ext (Am.ext (Am.ext (Am.ext aB 111 false fl) 133 false gq) 151 false kZ) 167 false pE) 168 false j0):=Eq.trans rfl rfl
theorem cO:type_of% (And.intro @w <| And.intro @gS <| And.intro @jc <| And.intro @qq <| And.intro @vq <| And.intro @oq <| @BM):=And.intro @w <| And.intro @gS <| And.intro @jc <| And.intro @qq <| And.intro @vq <| And.intro @oq <| @BM
theorem Ps (p0:aw) (p1:aw) (r:aw×aw×Int) (hh:tC p0 p1=some r):aX .clean tab xB FU Tryz.f132 none [.agg [.int .i64 p0.ag,.sl false false p0.aa.length (ab (eI .i64) p0.aa)],.agg [.int .i64 p1.ag,.sl false false p1.aa.length (ab (eI .i64) p1.aa)]]=some (.clean (.tup [.agg [.int .i64 r.1.ag,.sl false false r.1.aa.length (ab (eI .i64) r.1.aa)],.agg [.int .i64 r.2.1.ag,.sl false false r.2.1.aa.length (ab (eI .i64) r.2.1.aa)],.int .i64 r.2.2]),none):=by
 refine ay rfl Tryz.ntmps132 Tryz.results132 ?_
 unfold tC at hh
 obtain ⟨r1,hr1,hh⟩:=ae hh
 try simp only [cO,seval,-Int.reduceToNat,hr1]
 obtain ⟨o2,ho2,hh⟩:=ae hh
 refine bV 0 (fun s t H e=>match s with | s16j1=>∃ v2j1:Nat,∃ v3j1:Nat,∃ v4j1:Nat,∃ v5j1:Nat,t 2 = .ptr 2 v2j1 0∧t 3 = .ptr 3 v3j1 0∧t 4 = .ptr 4 v4j1 0∧t 5 = .ptr 5 v5j1 0∧t 16 = .bool s16j1∧H 2=some ⟨v2j1,49,[.int .i64 p0.ag,.sl false false p0.aa.length (ab (eI .i64) p0.aa)],false,false,false⟩∧H 3=some ⟨v3j1,49,[.int .i64 p1.ag,.sl false false p1.aa.length (ab (eI .i64) p1.aa)],false,false,false⟩∧H 4=some ⟨v4j1,49,[.int .i64 0,.sl true true 0 []],false,false,false⟩∧H 5=some ⟨v5j1,49,[.int .i64 0,.sl true true 0 []],false,false,false⟩) (fun s=>s=o2) ?_ ?_
 ·rintro s16j1 t H e ⟨v2j1,v3j1,v4j1,v5j1,t2j1,t3j1,t4j1,t5j1,t16j1,H2j1,H3j1,H4j1,H5j1⟩ rfl
  try dsimp only at hh
  try simp only [cO,seval,-Int.reduceToNat,hr1,t2j1,t3j1,t4j1,t5j1,t16j1,H2j1,H3j1,H4j1,H5j1]
  refine ai (fun hb3 => ?_) (fun hb3 => ?_)
  ·replace hh:=ak hb3 hh
   cases hh
   try simp only [cO,seval,-Int.reduceToNat,hr1,t2j1,t3j1,t4j1,t5j1,t16j1,H2j1,H3j1,H4j1,H5j1]
  ·replace hh:=aj hb3 hh
   try simp only [cO,seval,-Int.reduceToNat,hr1,t2j1,t3j1,t4j1,t5j1,t16j1,H2j1,H3j1,H4j1,H5j1]
   refine ai (fun hb4 => ?_) (fun hb4 => ?_)
   ·replace hh:=ak hb4 hh
    cases hh
    try simp only [cO,seval,-Int.reduceToNat,hr1,t2j1,t3j1,t4j1,t5j1,t16j1,H2j1,H3j1,H4j1,H5j1]
   ·replace hh:=aj hb4 hh
    obtain ⟨r5,hr5,hh⟩:=ae hh
    try simp only [cO,seval,-Int.reduceToNat,hr1,t2j1,t3j1,t4j1,t5j1,t16j1,H2j1,H3j1,H4j1,H5j1,hr5]
    obtain ⟨o6,ho6,hh⟩:=ae hh
    refine bV 0 (fun s t H e=>match s with | s42j2=>∃ v2j2:Nat,∃ v3j2:Nat,∃ v4j2:Nat,∃ v5j2:Nat,t 2 = .ptr 2 v2j2 0∧t 3 = .ptr 3 v3j2 0∧t 4 = .ptr 4 v4j2 0∧t 5 = .ptr 5 v5j2 0∧t 7 = .sl false false r5.1.length (ab (eI .i64) r5.1)∧t 8 = .sl false false r5.2.length (ab (eI .i64) r5.2)∧t 42 = .bool s42j2∧H 2=some ⟨v2j2,49,[.int .i64 p0.ag,.sl false false p0.aa.length (ab (eI .i64) p0.aa)],false,false,false⟩∧H 3=some ⟨v3j2,49,[.int .i64 p1.ag,.sl false false p1.aa.length (ab (eI .i64) p1.aa)],false,false,false⟩∧H 4=some ⟨v4j2,49,[.int .i64 0,.sl true true 0 []],false,false,false⟩∧H 5=some ⟨v5j2,49,[.int .i64 0,.sl true true 0 []],false,false,false⟩) (fun s=>s=o6) ?_ ?_
    ·rintro s42j2 t H e ⟨v2j2,v3j2,v4j2,v5j2,t2j2,t3j2,t4j2,t5j2,t7j2,t8j2,t42j2,H2j2,H3j2,H4j2,H5j2⟩ rfl
     try dsimp only at hh
     try simp only [cO,seval,-Int.reduceToNat,hr1,hr5,t2j2,t3j2,t4j2,t5j2,t7j2,t8j2,t42j2,H2j2,H3j2,H4j2,H5j2]
     refine ai (fun hb7 => ?_) (fun hb7 => ?_)
     ·replace hh:=ak hb7 hh
      obtain ⟨r8,hr8,hh⟩:=ae hh
      obtain ⟨r9,hr9,hh⟩:=ae hh
      try simp only [cO,seval,-Int.reduceToNat,hr1,hr5,t2j2,t3j2,t4j2,t5j2,t7j2,t8j2,t42j2,H2j2,H3j2,H4j2,H5j2,hr8,hr9]
      refine cI (by kernel_rfl) ?_
      cases hh
      try simp only [cO,seval,-Int.reduceToNat,hr1,hr5,t2j2,t3j2,t4j2,t5j2,t7j2,t8j2,t42j2,H2j2,H3j2,H4j2,H5j2,hr8,hr9]
     ·replace hh:=aj hb7 hh
      have i10:=vq r5.1 ([1])
      simp only [aS,cl,List.length_cons,List.length_nil,Nat.zero_add,Nat.reduceAdd,List.length_set] at i10
      obtain ⟨r11,hr11,hh⟩:=ae hh
      obtain ⟨r12,hr12,hh⟩:=ae hh
      obtain ⟨r13,hr13,hh⟩:=ae hh
      obtain ⟨r14,hr14,hh⟩:=ae hh
      try simp only [cO,seval,-Int.reduceToNat,hr1,hr5,t2j2,t3j2,t4j2,t5j2,t7j2,t8j2,t42j2,H2j2,H3j2,H4j2,H5j2,i10,hr11,hr12,hr13,hr14]
      refine cI (by kernel_rfl) ?_
      cases hh
      try simp only [cO,seval,-Int.reduceToNat,hr1,hr5,t2j2,t3j2,t4j2,t5j2,t7j2,t8j2,t42j2,H2j2,H3j2,H4j2,H5j2,i10,hr11,hr12,hr13,hr14]
    ·
     clear hh
     have hh:=ho6
     try simp only [cO,seval,-Int.reduceToNat,hr1,t2j1,t3j1,t4j1,t5j1,t16j1,H2j1,H3j1,H4j1,H5j1,hr5]
     refine bj (fun hb15 => ?_) (fun hb15 => ?_)
     ·replace hh:=ak hb15 hh
      cases hh
      try simp only [cO,seval,-Int.reduceToNat,hr1,t2j1,t3j1,t4j1,t5j1,t16j1,H2j1,H3j1,H4j1,H5j1,hr5]
      rw [an]
      refine ⟨_,rfl,?_⟩
      refine ⟨v2j1,v3j1,v4j1,v5j1,?_,?_,?_,?_,?_,?_,?_,?_,?_,?_,?_⟩
      all_goals (first | rfl | (simp only [cO,seval,-Int.reduceToNat,hr1,t2j1,t3j1,t4j1,t5j1,t16j1,H2j1,H3j1,H4j1,H5j1,hr5] <;> rfl))
     ·replace hh:=aj hb15 hh
      cases hh
      try simp only [cO,seval,-Int.reduceToNat,hr1,t2j1,t3j1,t4j1,t5j1,t16j1,H2j1,H3j1,H4j1,H5j1,hr5]
      rw [an]
      refine ⟨_,rfl,?_⟩
      refine ⟨v2j1,v3j1,v4j1,v5j1,?_,?_,?_,?_,?_,?_,?_,?_,?_,?_,?_⟩
      all_goals (first | rfl | (simp only [cO,seval,-Int.reduceToNat,hr1,t2j1,t3j1,t4j1,t5j1,t16j1,H2j1,H3j1,H4j1,H5j1,hr5] <;> rfl))
 ·
  clear hh
  have hh:=ho2
  try simp only [cO,seval,-Int.reduceToNat,hr1]
  refine bj (fun hb16 => ?_) (fun hb16 => ?_)
  ·replace hh:=ak hb16 hh
   cases hh
   try simp only [cO,seval,-Int.reduceToNat,hr1]
   rw [an]
   refine ⟨_,rfl,?_⟩
   refine ⟨0,0,0,0,?_,?_,?_,?_,?_,?_,?_,?_,?_⟩
   all_goals (first | rfl | (simp only [cO,seval,-Int.reduceToNat,hr1] <;> rfl))
  ·replace hh:=aj hb16 hh
   obtain ⟨r17,hr17,hh⟩:=ae hh
   cases hh
   try simp only [cO,seval,-Int.reduceToNat,hr1,hr17]
   rw [an]
   refine ⟨_,rfl,?_⟩
   refine ⟨0,0,0,0,?_,?_,?_,?_,?_,?_,?_,?_,?_⟩
   all_goals (first | rfl | (simp only [cO,seval,-Int.reduceToNat,hr1,hr17] <;> rfl))
theorem Ma:bW Tryz.prog 132 s8:=bW.of (mode := .clean) tok Lx mixed Tryz.func132 (by kernel_rfl) ⟨by kernel_rfl,by kernel_rfl⟩ (fun _=>Nat.le_of_ble_eq_true (by kernel_rfl)) (fun x r h=>Ps x.1 x.2 r h)
noncomputable def th:=eZ (eg (dO ij) (ef (dO ij))) (fun x:aw×aw=>wV x.1 x.2) (fun r:aY×Int => .clean (.tup [.agg [.int .i64 r.1.cr.ag,.sl false false r.1.cr.aa.length (ab (eI .i64) r.1.cr.aa),.int .i64 r.1.cq.ag,.sl false false r.1.cq.aa.length (ab (eI .i64) r.1.cq.aa)],.int .i64 r.2]))
theorem FF (p0_0:Int) (p0_1:(List Int)) (p1_0:Int) (p1_1:(List Int)):th none [.agg [.int .i64 p0_0,.sl false false p0_1.length (ab (eI .i64) p0_1)],.agg [.int .i64 p1_0,.sl false false p1_1.length (ab (eI .i64) p1_1)]]=(wV (aw.mk p0_0 p0_1) (aw.mk p1_0 p1_1)).map fun r:aY×Int=>(.clean (.tup [.agg [.int .i64 r.1.cr.ag,.sl false false r.1.cr.aa.length (ab (eI .i64) r.1.cr.aa),.int .i64 r.1.cq.ag,.sl false false r.1.cq.aa.length (ab (eI .i64) r.1.cq.aa)],.int .i64 r.2]),none):=aR _ _ _ ((aw.mk p0_0 p0_1),(aw.mk p1_0 p1_1))
noncomputable def xF:Env:=(Am.ext (Am.ext (Am.ext (Am.ext aB 111 false fl) 112 false s9) 131 false td) 132 false s8)
theorem LD:b7 Tryz.prog xF:=((((b7.none.add mG false).add Mb false).add Mc false).add Ma false)
theorem BQ:xF=(Am.ext (Am.ext (Am.ext (Am.ext aB 111 false fl) 112 false s9) 131 false td) 132 false s8):=Eq.trans rfl rfl
theorem dK:type_of% (And.intro @w <| And.intro @gS <| And.intro @FB <| And.intro @FC <| And.intro @FA <| @BQ):=And.intro @w <| And.intro @gS <| And.intro @FB <| And.intro @FC <| And.intro @FA <| @BQ
theorem Px (p0:aw) (p1:aw) (r:aY×Int) (hh:wV p0 p1=some r):aX .clean tab xF FU Tryz.f102 none [.agg [.int .i64 p0.ag,.sl false false p0.aa.length (ab (eI .i64) p0.aa)],.agg [.int .i64 p1.ag,.sl false false p1.aa.length (ab (eI .i64) p1.aa)]]=some (.clean (.tup [.agg [.int .i64 r.1.cr.ag,.sl false false r.1.cr.aa.length (ab (eI .i64) r.1.cr.aa),.int .i64 r.1.cq.ag,.sl false false r.1.cq.aa.length (ab (eI .i64) r.1.cq.aa)],.int .i64 r.2]),none):=by
 refine ay rfl Tryz.ntmps102 Tryz.results102 ?_
 unfold wV at hh
 obtain ⟨r1,hr1,hh⟩:=ae hh
 try simp only [dK,seval,-Int.reduceToNat,hr1]
 obtain ⟨o2,ho2,hh⟩:=ae hh
 refine bV 0 (fun s t H e=>match s with | s21j1=>∃ v2j1:Nat,∃ v3j1:Nat,∃ v4j1:Nat,t 2 = .ptr 2 v2j1 0∧t 3 = .ptr 3 v3j1 0∧t 4 = .ptr 4 v4j1 0∧t 21 = .bool s21j1∧H 2=some ⟨v2j1,49,[.int .i64 p0.ag,.sl false false p0.aa.length (ab (eI .i64) p0.aa)],false,false,false⟩∧H 3=some ⟨v3j1,49,[.int .i64 p1.ag,.sl false false p1.aa.length (ab (eI .i64) p1.aa)],false,false,false⟩∧H 4=some ⟨v4j1,51,[.int .i64 0,.sl true true 0 [],.int .i64 0,.sl true true 0 []],false,false,false⟩) (fun s=>s=o2) ?_ ?_
 ·rintro s21j1 t H e ⟨v2j1,v3j1,v4j1,t2j1,t3j1,t4j1,t21j1,H2j1,H3j1,H4j1⟩ rfl
  try dsimp only at hh
  try simp only [dK,seval,-Int.reduceToNat,hr1,t2j1,t3j1,t4j1,t21j1,H2j1,H3j1,H4j1]
  refine ai (fun hb3 => ?_) (fun hb3 => ?_)
  ·replace hh:=ak hb3 hh
   cases hh
   try simp only [dK,seval,-Int.reduceToNat,hr1,t2j1,t3j1,t4j1,t21j1,H2j1,H3j1,H4j1]
  ·replace hh:=aj hb3 hh
   try simp only [dK,seval,-Int.reduceToNat,hr1,t2j1,t3j1,t4j1,t21j1,H2j1,H3j1,H4j1]
   refine ai (fun hb4 => ?_) (fun hb4 => ?_)
   ·replace hh:=ak hb4 hh
    cases hh
    try simp only [dK,seval,-Int.reduceToNat,hr1,t2j1,t3j1,t4j1,t21j1,H2j1,H3j1,H4j1]
   ·replace hh:=aj hb4 hh
    try simp only [dK,seval,-Int.reduceToNat,hr1,t2j1,t3j1,t4j1,t21j1,H2j1,H3j1,H4j1]
    obtain ⟨o5,ho5,hh⟩:=ae hh
    refine l7 0 (fun s t H e=>match s with | (r2_0j2,r2_1j2,r3_0j2,r3_1j2)=>∃ v2j2:Nat,∃ v3j2:Nat,∃ v4j2:Nat,t 2 = .ptr 2 v2j2 0∧t 3 = .ptr 3 v3j2 0∧t 4 = .ptr 4 v4j2 0∧H 2=some ⟨v2j2,49,[.int .i64 r2_0j2,.sl false false r2_1j2.length (ab (eI .i64) r2_1j2)],false,false,false⟩∧H 3=some ⟨v3j2,49,[.int .i64 r3_0j2,.sl false false r3_1j2.length (ab (eI .i64) r3_1j2)],false,false,false⟩∧H 4=some ⟨v4j2,51,[.int .i64 0,.sl true true 0 [],.int .i64 0,.sl true true 0 []],false,false,false⟩) (fun s=>s=o5) ?_ ?_
    ·rintro ⟨r2_0j2,r2_1j2,r3_0j2,r3_1j2⟩ t H e ⟨v2j2,v3j2,v4j2,t2j2,t3j2,t4j2,H2j2,H3j2,H4j2⟩ rfl
     try dsimp only at hh
     obtain ⟨r6,hr6,hh⟩:=ae hh
     obtain ⟨r7,hr7,hh⟩:=ae hh
     obtain ⟨r8,hr8,hh⟩:=ae hh
     cases hh
     try simp only [dK,seval,-Int.reduceToNat,hr1,t2j2,t3j2,t4j2,H2j2,H3j2,H4j2,hr6,hr7,hr8]
    ·
     clear hh
     have hh:=ho5
     try simp only [dK,seval,-Int.reduceToNat,hr1,t2j1,t3j1,t4j1,t21j1,H2j1,H3j1,H4j1]
     refine ai (fun hb9 => ?_) (fun hb9 => ?_)
     ·replace hh:=ak hb9 hh
      obtain ⟨r10,hr10,hh⟩:=ae hh
      obtain ⟨r11,hr11,hh⟩:=ae hh
      cases hh
      try simp only [dK,seval,-Int.reduceToNat,hr1,t2j1,t3j1,t4j1,t21j1,H2j1,H3j1,H4j1,hr10,hr11]
      rw [an]
      refine ⟨_,rfl,?_⟩
      refine ⟨v2j1,v3j1,v4j1,?_,?_,?_,?_,?_,?_⟩
      all_goals (first | rfl | (simp only [dK,seval,-Int.reduceToNat,hr1,t2j1,t3j1,t4j1,t21j1,H2j1,H3j1,H4j1,hr10,hr11] <;> rfl))
     ·replace hh:=aj hb9 hh
      cases hh
      try simp only [dK,seval,-Int.reduceToNat,hr1,t2j1,t3j1,t4j1,t21j1,H2j1,H3j1,H4j1]
      rw [an]
      refine ⟨_,rfl,?_⟩
      refine ⟨v2j1,v3j1,v4j1,?_,?_,?_,?_,?_,?_⟩
      all_goals (first | rfl | (simp only [dK,seval,-Int.reduceToNat,hr1,t2j1,t3j1,t4j1,t21j1,H2j1,H3j1,H4j1] <;> rfl))
 ·
  clear hh
  have hh:=ho2
  try simp only [dK,seval,-Int.reduceToNat,hr1]
  refine bj (fun hb12 => ?_) (fun hb12 => ?_)
  ·replace hh:=ak hb12 hh
   cases hh
   try simp only [dK,seval,-Int.reduceToNat,hr1]
   rw [an]
   refine ⟨_,rfl,?_⟩
   refine ⟨0,0,0,?_,?_,?_,?_,?_,?_,?_⟩
   all_goals (first | rfl | (simp only [dK,seval,-Int.reduceToNat,hr1] <;> rfl))
  ·replace hh:=aj hb12 hh
   obtain ⟨r13,hr13,hh⟩:=ae hh
   cases hh
   try simp only [dK,seval,-Int.reduceToNat,hr1,hr13]
   rw [an]
   refine ⟨_,rfl,?_⟩
   refine ⟨0,0,0,?_,?_,?_,?_,?_,?_,?_⟩
   all_goals (first | rfl | (simp only [dK,seval,-Int.reduceToNat,hr1,hr13] <;> rfl))
theorem Mf:bW Tryz.prog 102 th:=bW.of (mode := .clean) tok LD mixed Tryz.func102 (by kernel_rfl) ⟨by kernel_rfl,by kernel_rfl⟩ (fun _=>Nat.le_of_ble_eq_true (by kernel_rfl)) (fun x r h=>Px x.1 x.2 r h)
noncomputable def vE:=eZ (eg (aI .i64) (ef (aI .i64))) (fun x:Int×Int=>Cy x.1 x.2) (fun r:aY×Int => .clean (.tup [.agg [.int .i64 r.1.cr.ag,.sl false false r.1.cr.aa.length (ab (eI .i64) r.1.cr.aa),.int .i64 r.1.cq.ag,.sl false false r.1.cq.aa.length (ab (eI .i64) r.1.cq.aa)],.int .i64 r.2]))
theorem Ko (p0:Int) (p1:Int):vE none [.int .i64 p0,.int .i64 p1]=(Cy p0 p1).map fun r:aY×Int=>(.clean (.tup [.agg [.int .i64 r.1.cr.ag,.sl false false r.1.cr.aa.length (ab (eI .i64) r.1.cr.aa),.int .i64 r.1.cq.ag,.sl false false r.1.cq.aa.length (ab (eI .i64) r.1.cq.aa)],.int .i64 r.2]),none):=aR _ _ _ (p0,p1)
noncomputable def Bx:Env:=(Am.ext (Am.ext aB 102 false th) 103 false vD)
theorem Pj:b7 Tryz.prog Bx:=((b7.none.add Mf false).add PI false)
theorem E7:Bx=(Am.ext (Am.ext aB 102 false th) 103 false vD):=Eq.trans rfl rfl
theorem S1:type_of% (And.intro @w <| And.intro @FF <| And.intro @Kn <| @E7):=And.intro @w <| And.intro @FF <| And.intro @Kn <| @E7
theorem Rv (p0:Int) (p1:Int) (r:aY×Int) (hh:Cy p0 p1=some r):aX .clean tab Bx FU Tryz.f59 none [.int .i64 p0,.int .i64 p1]=some (.clean (.tup [.agg [.int .i64 r.1.cr.ag,.sl false false r.1.cr.aa.length (ab (eI .i64) r.1.cr.aa),.int .i64 r.1.cq.ag,.sl false false r.1.cq.aa.length (ab (eI .i64) r.1.cq.aa)],.int .i64 r.2]),none):=by
 refine ay rfl Tryz.ntmps59 Tryz.results59 ?_
 unfold Cy at hh
 obtain ⟨r1,hr1,hh⟩:=ae hh
 obtain ⟨r2,hr2,hh⟩:=ae hh
 obtain ⟨r3,hr3,hh⟩:=ae hh
 cases hh
 try simp only [S1,seval,-Int.reduceToNat,hr1,hr2,hr3]
theorem PJ:bW Tryz.prog 59 vE:=bW.of (mode := .clean) tok Pj mixed Tryz.func59 (by kernel_rfl) ⟨by kernel_rfl,by kernel_rfl⟩ (fun _=>Nat.le_of_ble_eq_true (by kernel_rfl)) (fun x r h=>Rv x.1 x.2 r h)
noncomputable def tf:=eZ (ef (aI .i64)) (fun x:Int=>tG x) (fun r:aY => .clean (.agg [.int .i64 r.cr.ag,.sl false false r.cr.aa.length (ab (eI .i64) r.cr.aa),.int .i64 r.cq.ag,.sl false false r.cq.aa.length (ab (eI .i64) r.cq.aa)]))
theorem FE (p0:Int):tf none [.int .i64 p0]=(tG p0).map fun r:aY=>(.clean (.agg [.int .i64 r.cr.ag,.sl false false r.cr.aa.length (ab (eI .i64) r.cr.aa),.int .i64 r.cq.ag,.sl false false r.cq.aa.length (ab (eI .i64) r.cq.aa)]),none):=aR _ _ _ (p0)
noncomputable def xE:Env:=(Am.ext aB 59 false vE)
theorem LC:b7 Tryz.prog xE:=(b7.none.add PJ false)
theorem BP:xE=(Am.ext aB 59 false vE):=Eq.trans rfl rfl
theorem P2:type_of% (And.intro @w <| And.intro @Ko <| @BP):=And.intro @w <| And.intro @Ko <| @BP
theorem Pw (p0:Int) (r:aY) (hh:tG p0=some r):aX .clean tab xE FU Tryz.f32 none [.int .i64 p0]=some (.clean (.agg [.int .i64 r.cr.ag,.sl false false r.cr.aa.length (ab (eI .i64) r.cr.aa),.int .i64 r.cq.ag,.sl false false r.cq.aa.length (ab (eI .i64) r.cq.aa)]),none):=by
 refine ay rfl Tryz.ntmps32 Tryz.results32 ?_
 unfold tG at hh
 obtain ⟨r1,hr1,hh⟩:=ae hh
 cases hh
 try simp only [P2,seval,-Int.reduceToNat,hr1]
theorem Me:bW Tryz.prog 32 tf:=bW.of (mode := .clean) tok LC mixed Tryz.func32 (by kernel_rfl) ⟨by kernel_rfl,by kernel_rfl⟩ (fun _=>Nat.le_of_ble_eq_true (by kernel_rfl)) (fun x r h=>Pw x r h)
noncomputable def lD:=eZ (eg (aI .i64) (ef (aI .i64))) (fun x:Int×Int=>gQ x.1 x.2) (fun r:dL => .clean (.agg [.int .i64 r.bx.cr.ag,.sl false false r.bx.cr.aa.length (ab (eI .i64) r.bx.cr.aa),.int .i64 r.bx.cq.ag,.sl false false r.bx.cq.aa.length (ab (eI .i64) r.bx.cq.aa),.int .i64 r.aT.cr.ag,.sl false false r.aT.cr.aa.length (ab (eI .i64) r.aT.cr.aa),.int .i64 r.aT.cq.ag,.sl false false r.aT.cq.aa.length (ab (eI .i64) r.aT.cq.aa)]))
theorem uG (p0:Int) (p1:Int):lD none [.int .i64 p0,.int .i64 p1]=(gQ p0 p1).map fun r:dL=>(.clean (.agg [.int .i64 r.bx.cr.ag,.sl false false r.bx.cr.aa.length (ab (eI .i64) r.bx.cr.aa),.int .i64 r.bx.cq.ag,.sl false false r.bx.cq.aa.length (ab (eI .i64) r.bx.cq.aa),.int .i64 r.aT.cr.ag,.sl false false r.aT.cr.aa.length (ab (eI .i64) r.aT.cr.aa),.int .i64 r.aT.cq.ag,.sl false false r.aT.cq.aa.length (ab (eI .i64) r.aT.cq.aa)]),none):=aR _ _ _ (p0,p1)
noncomputable def oK:Env:=(Am.ext aB 32 false tf)
theorem BE:b7 Tryz.prog oK:=(b7.none.add Me false)
theorem sq:oK=(Am.ext aB 32 false tf):=Eq.trans rfl rfl
theorem DX:type_of% (And.intro @w <| And.intro @FE <| @sq):=And.intro @w <| And.intro @FE <| @sq
theorem DB (p0:Int) (p1:Int) (r:dL) (hh:gQ p0 p1=some r):aX .clean tab oK FU Tryz.f35 none [.int .i64 p0,.int .i64 p1]=some (.clean (.agg [.int .i64 r.bx.cr.ag,.sl false false r.bx.cr.aa.length (ab (eI .i64) r.bx.cr.aa),.int .i64 r.bx.cq.ag,.sl false false r.bx.cq.aa.length (ab (eI .i64) r.bx.cq.aa),.int .i64 r.aT.cr.ag,.sl false false r.aT.cr.aa.length (ab (eI .i64) r.aT.cr.aa),.int .i64 r.aT.cq.ag,.sl false false r.aT.cq.aa.length (ab (eI .i64) r.aT.cq.aa)]),none):=by
 refine ay rfl Tryz.ntmps35 Tryz.results35 ?_
 unfold gQ at hh
 obtain ⟨r1,hr1,hh⟩:=ae hh
 obtain ⟨r2,hr2,hh⟩:=ae hh
 cases hh
 try simp only [DX,seval,-Int.reduceToNat,hr1,hr2]
theorem Ci:bW Tryz.prog 35 lD:=bW.of (mode := .clean) tok BE mixed Tryz.func35 (by kernel_rfl) ⟨by kernel_rfl,by kernel_rfl⟩ (fun _=>Nat.le_of_ble_eq_true (by kernel_rfl)) (fun x r h=>DB x.1 x.2 r h)
noncomputable def ep:=eZ (ef (dO ij)) (fun x:aw=>eh x) (fun r:Bool => .clean (.bool r))
theorem fu (p0_0:Int) (p0_1:(List Int)):ep none [.agg [.int .i64 p0_0,.sl false false p0_1.length (ab (eI .i64) p0_1)]]=(eh (aw.mk p0_0 p0_1)).map fun r:Bool=>(.clean (.bool r),none):=aR _ _ _ ((aw.mk p0_0 p0_1))
end Go.Proofs.YtpkahnkoecbndaaGreatDoor.Am
