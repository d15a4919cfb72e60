import Derived.Test.YtokgehacmjmfkaaGreatId
set_option linter.unusedSimpArgs false
set_option linter.unusedVariables false
set_option linter.defProp false
noncomputable section
open Go.Proofs.Tryz
namespace Go.Proofs.YtokgehacmjmfkaaGreat.Am
open Go.RowKit P Go.Shelf Go.Lib
section
variable {P:Program}
def vP (w:World) (n q r c:TypeId) (K b o d g:Nat) (a:Addr) (e h:Nat) (f:List Value)
  (s:P.underlying n=some (.slice c)) (p:(P.info? c).map (·.size)=some K) (t:f.length=Nat.min e d*K)
  (k:∀j v,f[j]? = some v->w.cell? (a.add j)=some v) (u:∀j,j<f.length->(w.cell? ⟨b,o+j,none⟩).isSome=true) (x:∀j,j<f.length->w.frozen? ⟨b,o+j,none⟩=false) (y:∀v∈f,v.oneCell'=true) :
  (Builtin.copy_ #[n,q] r #[.slice (some ⟨b,o,none⟩) d g,.slice (some a) e h]).run P w=.ok (goInt (Nat.min e d)) (w.setCells b o f):=by
 have z:=run_loadCells_list (P:=P) w a f k;have l:=run_storeCells_cells (P:=P) b o f 0 w (by simpa using u) (by simpa using x) y;cases m:P.info? c with
 | none=>simp[m]at p
 | some i =>
  have A:i.size=K:=by simpa [m] using p
  simp[Builtin.copy_,run_underlying s,Builtin.lenOf,Builtin.firstCells,sizeOf,typeInfo,m,A,<- t,z,l]
def CT (w:World) {c:Array Oper} {b:List Oper} {o:Oper} {a:Act} {Q:Exit->Act->World->Prop} (d:o.guard=none) (s:Operand) (t:TypeId)
  (g:o.op=.call { callee := .builtin .clear,args:=#[s],argTypes:=#[t] }) (v:Value) (i:a.eval s=v) {e:Value} {f:World}
  (j:(Builtin.clear_ #[t] o.type #[v]).run P w=.ok e f) (h:wpList P c Q b (a.put o.dst e) f):wpList P c Q (o::b) a w :=
 wpList_plain d fun _ k=>by
  unfold Oper.wp execOp;simp only[g,resolve,invoke,builtin,aiY,Sem.run_pure,Result.andThen_ok,List.map_toArray,aix,ajg,i,j];exact k _ _ h
def Q9 (w:World) (t e g:TypeId) (z:Value) (h:P.underlying t=some (.slice e)) (i:∀w,(zeroValue e).run P w=.ok z w) (b o n c:Nat) (q:0<n) (a:List Value) (f:(Builtin.zeroCells z.cells n).toList=a) (k:∀v∈a,v.oneCell'=true)
  (l:∀j,j<a.length->(w.cell? ⟨b,o+j,none⟩).isSome=true) (p:∀j,j<a.length->w.frozen? ⟨b,o+j,none⟩=false) :
  (Builtin.clear_ #[t] g #[.slice (some ⟨b,o,none⟩) n c]).run P w=.ok (.tuple #[]) (w.setCells b o a):=by
 have d:=run_storeCells_cells (P:=P) b o a 0 w (by simpa using l) (by simpa using p) k;simp only[Nat.add_zero]at d;obtain⟨m,rfl⟩:∃m,n=m+1:=⟨n-1,by omega⟩;simp[Builtin.clear_,run_underlying h,i,f,d]
end
def Mb:(Tryz.prog.info? 84).map (fun i=>(i.zero,i.size,i.bytes))=some (some (Value.agg #[.int .i64 0,.int .i64 0,.slice none 0 0,.int .i64 0,.slice none 0 0]),5,72):=by kernel_rfl
def aaL:(Tryz.prog.info? 84).map (·.size)=some 5:=by kernel_rfl
set_option maxHeartbeats 4000000 in
set_option maxRecDepth 100000 in
def Oa (a:Option Addr) (n c i:Nat) (w:World) (hi:i<=n) (hn:n<=c) (hc:c<=9223372036854775807) (ha:a=none->c=0) :
  Calls prog 57 #[.slice a n c,.int .i64 i,.int .i64 i] w fun e w'=>e=.returned (.slice a n c)∧w'=w:=by
 go_enter func57,ntmps57
 cases a with
 | none =>
  have:=ha rfl;subst this;obtain rfl:n=0:=by omega
  obtain rfl:i=0:=by omega
  go_wp2
  all_goals (go_ret;exact⟨rfl,rfl⟩)
 | some a =>
  obtain⟨ab,ao,asp⟩:=a
  go_wp2
  all_goals (go_ret;exact⟨rfl,rfl⟩)
def nC:Value := .agg #[.int .i64 0,.int .i64 0,.slice none 0 0,.int .i64 0,.slice none 0 0]
def D0:nC.cells = #[.int .i64 0,.int .i64 0,.slice none 0 0,.int .i64 0,.slice none 0 0]:=rfl
def pb (n:Nat):(Builtin.zeroCells nC.cells n).toList.length=n*5:=by
 simp[Builtin.zeroCells,D0]
def Yb (n:Nat):∀v∈(Builtin.zeroCells nC.cells n).toList,v.oneCell'=true:=by
 intro v a;simp only[Builtin.zeroCells,D0,ajl,aiq]at a;obtain⟨i,_,rfl⟩:=a;have b:i % 5<5:=ajm _ (by decide);simp only[ajN,List.length_cons,List.length_nil,ajf,Nat.reduceAdd];generalize i % 5=k at *
 match k,b with
 | 0,_=>rfl
 | 1,_=>rfl
 | 2,_=>rfl
 | 3,_=>rfl
 | 4,_=>rfl
set_option maxHeartbeats 4000000 in
set_option maxRecDepth 100000 in
def Y6 (b off n c i j:Nat) (cs:List Value) (w:World) (hl:cs.length=n*5) (hcs:∀k v,cs[k]? = some v->w.cell? ⟨b,off+k,none⟩=some v) (hfz:∀k,w.frozen? ⟨b,k,none⟩=false) (h1:∀v∈cs,v.oneCell'=true)
  (hnc:n<=c) (hc:c<=9223372036854775807) (hij:i<j) (hj:j<=n) :
  Calls prog 57 #[.slice (some ⟨b,off,none⟩) n c,.int .i64 i,.int .i64 j] w fun e w'=>e=.returned (.slice (some ⟨b,off,none⟩) (i+(n-j)) c) ∧
   w'=(w.drew.setCells b (off+i*5) (cs.drop (j*5))).setCells b (off+(i+(n-j))*5) (Builtin.zeroCells nC.cells (n-(i+(n-j)))).toList:=by
 have t0:=underlying77;obtain⟨i0,hi0,hz0,hz1,hz2⟩:=info_parts Mb;have v0:∀w,(zeroValue 84).run prog w=.ok nC w:=fun w=>by simp[zeroValue,typeInfo,hi0,hz0,nC]
 obtain⟨A,hA,hsrc⟩:∃A:Addr,(if c=j then some (⟨b,off,none⟩:Addr) else some ⟨b,off+j*5,none⟩)=some A∧Hid (∀t u,(cs.drop (j*5))[t]? = some u->w.drew.cell? (A.add t)=some u):=by
  by_cases h:c=j
  ·refine⟨⟨b,off,none⟩,by simp[h],fun t u hu =>?_⟩;have h0:(cs.drop (j*5)).length=0:=by rw[aiL,hl];omega
   rw[List.length_eq_zero_iff.1 h0]at hu;simp at hu
  ·refine⟨⟨b,off+j*5,none⟩,by simp[h],fun t u hu =>?_⟩;rw[aiI]at hu;rw[alL,aiM];exact hcs _ _ hu
 have hdl:(cs.drop (j*5)).length=(n-j)*5:=by rw[aiL,hl,Nat.sub_mul]
 have hsp:∀k,k<n*5->(w.cell? ⟨b,off+k,none⟩).isSome=true:=fun k hk=>by
  rw[hcs k _ (aiE (by omega))];rfl
 have s1:Hid ((cs.drop (j*5)).length=(n-j)*5):=hdl;have s2:Hid (∀u∈cs.drop (j*5),u.oneCell'=true):=fun u hu=>h1 u (ai9 hu);have s3:Hid (∀t,t<(cs.drop (j*5)).length->(w.drew.cell? ⟨b,off+i*5+t,none⟩).isSome=true∧w.drew.frozen? ⟨b,off+i*5+t,none⟩=false):=by
  intro t ht;rw[hdl]at ht;rw[aiM];exact⟨hsp _ (by omega),hfz _⟩
 obtain⟨W1,hW1⟩:∃W1,W1=w.drew.setCells b (off+i*5) (cs.drop (j*5)):=⟨_,rfl⟩;have hcl:∀ty,(Builtin.clear_ #[77] ty #[.slice (some ⟨b,off+(i+(n-j))*5,none⟩) (n-(i+(n-j))) (c-(i+(n-j)))]).run prog W1=.ok (.tuple #[]) (W1.setCells b (off+(i+(n-j))*5) (Builtin.zeroCells nC.cells (n-(i+(n-j)))).toList) :=
  fun ty=>Q9 W1 _ _ ty nC t0 v0 b _ _ _ (by omega) _ rfl (Yb _) (fun k hk=>by
   rw[pb]at hk;rw[hW1,aiM];exact isSome_setCells b _ _ _ (fun t ht=>(s3.out t ht).1) _ (hsp _ (by omega))) (fun k hk=>by rw[hW1,World.frozen?_setCells];exact hfz _)
 have hW:Hid (W1=w.drew.setCells b (off+i*5) (cs.drop (j*5))):=hW1;rw[<- hW1];have hic:i<=c:=by omega
 have hjc:j<=c:=by omega
 have hne:¬(i=j):=by omega
 have mixed:Tryz.prog.follows .mixedOrders=true:=by kernel_rfl
 generalize (Builtin.zeroCells nC.cells (n-(i+(n-j)))).toList=Z at hcl ⊢;clear hW1 hcs hdl hsp
 go_enter func57,ntmps57
 go_wp2_with fail
 go_region_law_o (refine step_append_room rfl (.tmp 22) (.tmp 25) 77 rfl 84 i0 5 t0 hi0 hz1 b off i c (by simp[Act.eval,Act.put]) A (n-j) (c-j) (cs.drop (j*5)) (by simp[Act.eval,Act.put]) s1.out hsrc.out s2.out (by omega) s3.out ?_;rw[<- hW.out])
 go_wp2_with (at_builtin;refine CT _ rfl _ 77 rfl _ rfl (hcl _) ?_)
 go_ret
 exact⟨rfl,rfl⟩
set_option maxHeartbeats 4000000 in
set_option maxRecDepth 100000 in
def Xd (b off n c i vb voff m vc:Nat) (cs vs:List Value) (w:World) (hi:i<n) (hm:0<m) (hroom:n+m<=c) (hc63:c<=9223372036854775807) (hvb:vb≠b)
  (hcl:cs.length=n*5) (hvl:vs.length=m*5)
  (hcs:∀j v,cs[j]? = some v->w.cell? ⟨b,off+j,none⟩=some v) (hsp:∀j,j<(n+m)*5->(w.cell? ⟨b,off+j,none⟩).isSome=true) (hfz:∀j,w.frozen? ⟨b,j,none⟩=false)
  (hvs:∀j v,vs[j]? = some v->w.cell? ⟨vb,voff+j,none⟩=some v) (h1c:∀v∈cs,v.oneCell'=true) (h1v:∀v∈vs,v.oneCell'=true)
  (tA tB:TypeId) (kA kB:Nat) (hsa:w.shape? vb=some (tA,kA)) (hsb:w.shape? b=some (tB,kB)) (hkB:kB≠0) (hfa:w.frozen? ⟨vb,voff,none⟩=false) (hfe:w.frozen? ⟨vb,kA,none⟩=false) :
  Calls prog 98 #[.slice (some ⟨b,off,none⟩) n c,.int .i64 i,.slice (some ⟨vb,voff,none⟩) m vc] w fun e w' =>
   e=.returned (.slice (some ⟨b,off,none⟩) (n+m) c)∧w'=(w.drew.setCells b (off+(i+m)*5) (cs.drop (i*5))).setCells b (off+i*5) vs:=by
 have t0:=underlying77;have hz1:¬((m:Int)=0):=by omega
 have hz2:¬((i:Int)=(n:Int)):=by omega
 have hsz:=aaL;have hov:∀lb cb,(callFunc 121 #[.slice (some ⟨vb,voff,none⟩) m vc,.slice (some ⟨b,off+(i+m)*5,none⟩) lb cb]).run prog w=.ok (.value (.bool false)) w:=fun lb cb=>by
  rw[run_callFunc_extern func121 (by kernel_rfl) (by kernel_rfl) (by kernel_rfl) (e:=Extern.SlicesOverlaps.overlaps #[77,77] #[4]) (by kernel_rfl),
   Lib.run_overlaps_apart w 77 4 84 t0 5 sizeOf84 ⟨vb,voff,none⟩ ⟨b,off+(i+m)*5,none⟩ m vc lb cb hvb tA tB kA kB hsa hsb hkB hfa hfe]
  rfl
 have hdl:(cs.drop (i*5)).length=(n-i)*5:=by rw[aiL,hcl,Nat.sub_mul]
 have mixed:Tryz.prog.follows .mixedOrders=true:=by kernel_rfl
 have hw1:IntKind.i64.wrap ((i:Int)+(m:Int))=(i:Int)+(m:Int):=by rw[IntKind.wrap_i64];omega
 have hb1:(0:Int)<=(i:Int)+(m:Int):=by omega
 have hin:i<=n:=by omega
 have htn:((i:Int)+(m:Int)).toNat=i+m:=by omega
 have hb2:¬(c=i+m):=by omega
 have hb3:(i:Int)<=(n:Int)+(m:Int):=by omega
 have hb4:¬(c=i):=by omega
 have hcp1:∀ty dc sc,(Builtin.copy_ #[77,77] ty #[.slice (some ⟨b,off+(i+m)*5,none⟩) (n+m-(i+m)) dc,.slice (some ⟨b,off+i*5,none⟩) (n+m-i) sc]).run prog w.drew=.ok (goInt (Nat.min (n+m-i) (n+m-(i+m)))) (w.drew.setCells b (off+(i+m)*5) (cs.drop (i*5))):=fun ty dc sc =>
  vP w.drew _ _ ty 84 5 b (off+(i+m)*5) (n+m-(i+m)) dc ⟨b,off+i*5,none⟩ (n+m-i) sc (cs.drop (i*5)) t0 hsz (by rw[hdl];congr 1;simp only[Nat.min_def];split<;>omega)
   (fun j v hj=>by rw[alL,aiM];exact hcs (i*5+j) v (by rwa [aiI]at hj))
   (fun j hj=>by rw[aiM];exact hsp _ (by omega)) (fun j hj=>hfz _) (fun v hv=>h1c v (ai9 hv))
 obtain⟨W1,hW1⟩:∃W1,W1=w.drew.setCells b (off+(i+m)*5) (cs.drop (i*5)):=⟨_,rfl⟩;have hsp1:∀k,k<(n+m)*5->(W1.cell? ⟨b,off+k,none⟩).isSome=true:=fun k hk=>by
  rw[hW1];exact isSome_setCells b _ _ _ (fun j hj=>by rw[aiM];exact hsp _ (by omega)) _ (hsp k hk)
 have hcp2:∀(W:World),(∀x,W.cell? x=W1.cell? x)->(∀x,W.frozen? x=W1.frozen? x)->∀ty dc,(Builtin.copy_ #[77,77] ty #[.slice (some ⟨b,off+i*5,none⟩) (n+m-i) dc,.slice (some ⟨vb,voff,none⟩) m vc]).run prog W=.ok (goInt (Nat.min m (n+m-i))) (W.setCells b (off+i*5) vs):=fun W hWc hWf ty dc =>
  vP W _ _ ty 84 5 b (off+i*5) (n+m-i) dc ⟨vb,voff,none⟩ m vc vs t0 hsz (by rw[hvl];congr 1;simp only[Nat.min_def];split<;>omega)
   (fun j v hj=>by
    rw[alL,hWc,hW1,World.cell?_setCells_out b _ _ _ _ (fun h _=>absurd h hvb)];exact hvs j v hj)
   (fun j hj=>by rw[hWc,aiM];exact hsp1 _ (by omega)) (fun j hj=>by rw[hWf,hW1,World.frozen?_setCells];exact hfz _) h1v
 rw[<- hW1]at hcp1
 go_enter func98,ntmps98
 go_wp2_with (simp only[hov])
 go_region_law_o (refine step_copy_runI rfl _ _ 77 77 rfl _ _ (by simp[Act.eval,Act.put]) (by simp[Act.eval,Act.put]) (hcp1 _ _ _) ?_)
 go_wp2_with (at_builtin;refine wpList_copy_runI _ rfl _ _ 77 77 rfl _ _ rfl rfl (hcp2 _ (fun _=>rfl) (fun _=>rfl) _ _) ?_)
 go_ret
 first|exact⟨rfl,rfl⟩|exact⟨rfl,by rw[hW1]⟩
set_option maxHeartbeats 4000000 in
set_option maxRecDepth 100000 in
def Md (b off n c vb voff m vc:Nat) (vs:List Value) (w:World) (hm:0<m) (hroom:n+m<=c) (hc63:c<=9223372036854775807)
  (hvl:vs.length=m*5) (hsp:∀j,j<m*5->(w.cell? ⟨b,off+n*5+j,none⟩).isSome=true) (hfz:∀j,w.frozen? ⟨b,j,none⟩=false)
  (hvs:∀j v,vs[j]? = some v->w.cell? ⟨vb,voff+j,none⟩=some v) (h1v:∀v∈vs,v.oneCell'=true) :
  Calls prog 98 #[.slice (some ⟨b,off,none⟩) n c,.int .i64 n,.slice (some ⟨vb,voff,none⟩) m vc] w fun e w' =>
   e=.returned (.slice (some ⟨b,off,none⟩) (n+m) c)∧w'=w.setCells b (off+n*5) vs:=by
 have t0:=underlying77;have mixed:Tryz.prog.follows .mixedOrders=true:=by kernel_rfl
 obtain⟨i0,hi0,hz0,hzs,hzb⟩:=info_parts Mb;have hz1:¬((m:Int)=0):=by omega
 have hsrc:Src prog i0.size 77 (.slice (some ⟨vb,voff,none⟩) m vc) m vs w:=Src.ofSlice w t0 ⟨vb,voff,none⟩ m vc vs (by rw[hzs];omega) (fun j u hj=>by rw[alL];exact hvs j u hj) h1v;have e5:off+n*i0.size=off+n*5:=by rw[hzs]
 have hsp':Hid (∀j,j<vs.length->(w.cell? ⟨b,off+n*i0.size+j,none⟩).isSome=true):=fun j hj=>by rw[e5];exact hsp j (by omega)
 rw[<- e5];have hin:n<=c:=by omega
 go_enter func98,ntmps98
 go_wp2_with (at_builtin;refine wpList_append_room_src _ rfl _ _ 77 77 rfl 84 i0 t0 hi0 b off n c rfl _ rfl m vs hsrc hroom hsp'.out (fun _ _=>hfz _) ?_)
 go_ret
 exact⟨rfl,by rw[hzs]⟩
set_option maxHeartbeats 4000000 in
set_option maxRecDepth 100000 in
def A8 (base:Option Addr) (n c vb voff m vc:Nat) (cs vs:List Value) (w:World) (hm:0<m) (hnc:n<=c) (hc63:c<=9223372036854775807) (hroom:c<n+m) (hbig:(n+m)*72<=140737488355328)
  (hcl:cs.length=n*5) (hvl:vs.length=m*5) (hnil:base=none->n=0)
  (hcs:∀a,base=some a->∀j v,cs[j]? = some v->w.cell? (a.add j)=some v)
  (hvs:∀j v,vs[j]? = some v->w.cell? ⟨vb,voff+j,none⟩=some v) (h1v:∀v∈vs,v.oneCell'=true) :
  Calls prog 98 #[.slice base n c,.int .i64 n,.slice (some ⟨vb,voff,none⟩) m vc] w fun e w' =>
   e=.returned (.slice (some ⟨w.heap.size,0,none⟩) (n+m) (grownCap w (n+m) c 84)) ∧
   w'=w.drew.alloc (.cells ((cs++vs).toArray++Builtin.zeroCells nC.cells (grownCap w (n+m) c 84-(n+m))) 84):=by
 have t0:=underlying77;have mixed:Tryz.prog.follows .mixedOrders=true:=by kernel_rfl
 obtain⟨i0,hi0,hz0,hzs,hzb⟩:=info_parts Mb;have hz1:¬((m:Int)=0):=by omega
 have hsrc:Src prog i0.size 77 (.slice (some ⟨vb,voff,none⟩) m vc) m vs w:=by
  rw[hzs];exact Src.ofSlice w t0 ⟨vb,voff,none⟩ m vc vs (by omega) (fun j u hj=>by rw[alL];exact hvs j u hj) h1v
 have hold:(Builtin.firstCells i0.size n (.slice base n c)).run prog w.drew=.ok cs.toArray w.drew:=by
  rw[hzs];cases base with
  | none =>
   have h0:=hnil rfl;subst h0;obtain rfl:cs=[]:=List.length_eq_zero_iff.1 (by omega);exact run_firstCells_none w.drew 5 0 0 c
  | some a=>exact run_firstCells_some w.drew 5 n a n c cs (by omega) (fun j v hj=>hcs a rfl j v hj)
 have hrun:∀ty,(Builtin.append_ #[77,77] ty #[.slice base n c,.slice (some ⟨vb,voff,none⟩) m vc]).run prog w=_:=fun ty =>
  run_append_grow_src w 77 77 ty 84 i0 _ t0 hi0 hz0 base n c cs hold _ m vs hsrc hroom (by omega) (by rw[hzb];exact growslice_fits hroom hbig)
 generalize hR:w.drew.alloc (.cells ((cs++vs).toArray++Builtin.zeroCells nC.cells (grownCap w (n+m) c 84-(n+m))) 84)=R;have hrun':∀ty,(Builtin.append_ #[77,77] ty #[.slice base n c,.slice (some ⟨vb,voff,none⟩) m vc]).run prog w=.ok (.slice (some ⟨w.heap.size,0,none⟩) (n+m) (grownCap w (n+m) c 84)) R:=fun ty=>by rw[hrun ty,<- hR];rfl
 clear hrun hold hR
 go_enter func98,ntmps98
 cases base with
 | none =>
  have h0:=hnil rfl;subst h0
  go_wp2_with (at_builtin;refine Lib.wpList_append_run _ rfl _ _ _ _ rfl _ _ rfl rfl _ _ (hrun' _) ?_)
  go_ret
  exact⟨rfl,rfl⟩
 | some a =>
  obtain⟨ab,ao,asp⟩:=a
  go_wp2_with (at_builtin;refine Lib.wpList_append_run _ rfl _ _ _ _ rfl _ _ rfl rfl _ _ (hrun' _) ?_)
  all_goals (go_ret;exact⟨rfl,rfl⟩)
set_option maxHeartbeats 4000000 in
set_option maxRecDepth 100000 in
def ZY (b off n c i vb voff m vc:Nat) (cs vs:List Value) (w:World) (hi:i<n) (hm:0<m) (hnc:n<=c) (hroom:c<n+m) (hbig:(n+m)*72<=140737488355328)
  (hcl:cs.length=n*5) (hvl:vs.length=m*5)
  (hcs:∀j v,cs[j]? = some v->w.cell? ⟨b,off+j,none⟩=some v)
  (hvs:∀j v,vs[j]? = some v->w.cell? ⟨vb,voff+j,none⟩=some v) (h1c:∀v∈cs,v.oneCell'=true) (h1v:∀v∈vs,v.oneCell'=true) :
  Calls prog 98 #[.slice (some ⟨b,off,none⟩) n c,.int .i64 i,.slice (some ⟨vb,voff,none⟩) m vc] w fun e w' =>
   e=.returned (.slice (some ⟨w.heap.size,0,none⟩) (n+m) (grownCap w (n+m) c 84)) ∧
   w'=(((w.alloc (.cells ((cs.take (i*5)).toArray++Builtin.zeroCells nC.cells (n+m-i)++Builtin.zeroCells nC.cells (grownCap w (n+m) c 84-(n+m))) 84)).drew.setCells w.heap.size (i*5) vs).drew).setCells w.heap.size ((i+m)*5) (cs.drop (i*5)):=by
 have t0:=underlying77;have mixed:Tryz.prog.follows .mixedOrders=true:=by kernel_rfl
 obtain⟨i0,hi0,hz0,hzs,hzb⟩:=info_parts Mb;have hz1:¬((m:Int)=0):=by omega
 have hz2:¬((i:Int)=(n:Int)):=by omega
 have hz3:(c:Int)<(n:Int)+(m:Int):=by omega
 have hsz:=aaL;have hbw:b<w.heap.size:=block_lt_of_cell (hcs 0 _ (aiE (by omega)));have hvw:vb<w.heap.size:=block_lt_of_cell (hvs 0 _ (aiE (by omega)));have hkk:(n:Int)+(m:Int)-(i:Int)=((n+m-i:Nat):Int):=by omega
 have hik:i+(n+m-i)=n+m:=by omega
 have hold:(Builtin.firstCells i0.size i (.slice (some ⟨b,off,none⟩) i c)).run prog w.drew=.ok (cs.take (i*5)).toArray w.drew:=by
  rw[hzs];exact run_firstCells_some w.drew 5 i ⟨b,off,none⟩ i c (cs.take (i*5)) (by rw[aiK];omega) (fun j v hj=>by
   rw[alL];rw[aiH]at hj;split at hj
   ·exact hcs j v hj
   ·cases hj)
 obtain⟨G,hG⟩:∃G,G=grownCap w (n+m) c 84:=⟨_,rfl⟩;obtain⟨ROW,hROW⟩:∃ROW:Array Value,ROW=(cs.take (i*5)).toArray++Builtin.zeroCells nC.cells (n+m-i)++Builtin.zeroCells nC.cells (G-(n+m)):=⟨_,rfl⟩;have hrz:∀ty,(Builtin.append_ #[77,3] ty #[.slice (some ⟨b,off,none⟩) i c,.int .i64 ((n:Int)+(m:Int)-(i:Int))]).run prog w =
   .ok (.slice (some ⟨w.heap.size,0,none⟩) (n+m) G) (w.drew.alloc (.cells ROW 84)):=fun ty=>by
  have h:=Lib.run_append_grow_zeros w 77 3 ty 84 i0 nC .i64 .i64 t0 underlying3 hi0 hz0 (some ⟨b,off,none⟩) i c (cs.take (i*5)) hold (n+m-i) (by omega) (by omega) (by omega) (by omega) (by rw[hzb];omega) (by rw[hzb,hik];exact growslice_fits hroom hbig);rw[hik]at h;rw[hkk,hROW,hG];exact h
 rw[<- hG];rw[<- hROW];have hRl:(n+m)*5<=ROW.size:=by
  have h1:(Builtin.zeroCells nC.cells (n+m-i)).size=(n+m-i)*5:=by have:=pb (n+m-i);simpa using this
  rw[hROW,ajM,ajM,h1];simp only[ajN,aiK];omega
 obtain⟨W1,hW1⟩:∃W1,W1=w.drew.alloc (.cells ROW 84):=⟨_,rfl⟩;rw[<- hW1]at hrz;have hN:∀j,j<(n+m)*5->(W1.cell? ⟨w.heap.size,j,none⟩).isSome=true:=fun j hj=>by
  rw[hW1,World.cell?_alloc_at (w:=w.drew) ROW _ w.heap.size j rfl,ajC (by omega)];rfl
 have hNf:∀j,W1.frozen? ⟨w.heap.size,j,none⟩=false:=fun j=>by rw[hW1];exact World.frozen?_alloc_at (w:=w.drew) ROW _ w.heap.size j rfl
 have hOb:∀j v,w.cell? ⟨b,j,none⟩=some v->W1.cell? ⟨b,j,none⟩=some v:=fun j v h=>by rw[hW1,World.cell?_alloc_past (w:=w.drew) _ b j hbw];exact h
 have hOv:∀j v,w.cell? ⟨vb,j,none⟩=some v->W1.cell? ⟨vb,j,none⟩=some v:=fun j v h=>by rw[hW1,World.cell?_alloc_past (w:=w.drew) _ vb j hvw];exact h
 have hcpA:∀(W:World),(∀x,W.cell? x=W1.cell? x)->(∀x,W.frozen? x=W1.frozen? x)->∀ty dc,(Builtin.copy_ #[77,77] ty #[.slice (some ⟨w.heap.size,i*5,none⟩) (n+m-i) dc,.slice (some ⟨vb,voff,none⟩) m vc]).run prog W=.ok (goInt (Nat.min m (n+m-i))) (W.setCells w.heap.size (i*5) vs):=fun W hWc hWf ty dc =>
  vP W _ _ ty 84 5 w.heap.size (i*5) (n+m-i) dc ⟨vb,voff,none⟩ m vc vs t0 hsz (by rw[hvl];congr 1;simp only[Nat.min_def];split<;>omega)
   (fun j v hj=>by rw[alL,hWc];exact hOv _ v (hvs j v hj))
   (fun j hj=>by rw[hWc];exact hN _ (by omega)) (fun j hj=>by rw[hWf];exact hNf _) h1v
 have hGn:n+m<=G:=by rw[hG];exact grownCap_ge w _ _ _
 have hG63:G<=9223372036854775807:=by
  have:=grownCap_le_maxLen w (n+m) c 84 (by unfold maxLen;omega);rw[<- hG]at this;unfold maxLen at this;omega
 have hGi:¬(G=i):=by omega
 have hGim:¬(G=i+m):=by omega
 have hci:¬(c=i):=by omega
 have hbN:b≠w.heap.size:=by omega
 have hdl:(cs.drop (i*5)).length=(n-i)*5:=by rw[aiL,hcl,Nat.sub_mul]
 have hcpB:∀(W:World),(∀x,W.cell? x=(W1.setCells w.heap.size (i*5) vs).cell? x)->(∀x,W.frozen? x=(W1.setCells w.heap.size (i*5) vs).frozen? x)->∀ty dc sc,(Builtin.copy_ #[77,77] ty #[.slice (some ⟨w.heap.size,(i+m)*5,none⟩) (n+m-(i+m)) dc,.slice (some ⟨b,off+i*5,none⟩) (n-i) sc]).run prog W=.ok (goInt (Nat.min (n-i) (n+m-(i+m)))) (W.setCells w.heap.size ((i+m)*5) (cs.drop (i*5))):=fun W hWc hWf ty dc sc =>
  vP W _ _ ty 84 5 w.heap.size ((i+m)*5) (n+m-(i+m)) dc ⟨b,off+i*5,none⟩ (n-i) sc (cs.drop (i*5)) t0 hsz (by rw[hdl];congr 1;simp only[Nat.min_def];split<;>omega)
   (fun j v hj=>by
    rw[alL,hWc,World.cell?_setCells_out _ _ _ _ _ (fun h _=>absurd h hbN),aiM];exact hOb _ v (hcs (i*5+j) v (by rwa [aiI]at hj)))
   (fun j hj=>by rw[hWc];exact isSome_setCells _ _ _ _ (fun t ht=>hN _ (by omega)) _ (hN _ (by omega)))
   (fun j hj=>by rw[hWf,World.frozen?_setCells];exact hNf _) (fun v hv=>h1c v (ai9 hv))
 subst hW1;have hE1:∀x,((w.alloc (.cells ROW 84)).drew).cell? x=(w.drew.alloc (.cells ROW 84)).cell? x:=fun x=>rfl;have hE2:∀x,((w.alloc (.cells ROW 84)).drew).frozen? x=(w.drew.alloc (.cells ROW 84)).frozen? x:=fun x=>rfl;have hF1:∀x,(((w.alloc (.cells ROW 84)).drew.setCells w.heap.size (i*5) vs).drew).cell? x=((w.drew.alloc (.cells ROW 84)).setCells w.heap.size (i*5) vs).cell? x:=fun x=>rfl;have hF2:∀x,(((w.alloc (.cells ROW 84)).drew.setCells w.heap.size (i*5) vs).drew).frozen? x=((w.drew.alloc (.cells ROW 84)).setCells w.heap.size (i*5) vs).frozen? x:=fun x=>rfl;have hw1:IntKind.i64.wrap ((i:Int)+(m:Int))=(i:Int)+(m:Int):=by rw[IntKind.wrap_i64];omega
 have hb1:(0:Int)<=(i:Int)+(m:Int):=by omega
 have hin:i<=n:=by omega
 have htn:((i:Int)+(m:Int)).toNat=i+m:=by omega
 have hb3:(i:Int)<=(n:Int):=by omega
 clear hkk hik hold hROW hG hRl
 go_enter func98,ntmps98
 go_wp2_with (first
  | (at_builtin;refine Lib.wpList_append_run _ rfl _ _ _ _ rfl _ _ rfl rfl _ _ (hrz _) ?_)
  | (at_builtin;refine wpList_copy_runI _ rfl _ _ 77 77 rfl _ _ rfl rfl (hcpA _ hE1 hE2 _ _) ?_)
  | (at_builtin;refine wpList_copy_runI _ rfl _ _ 77 77 rfl _ _ rfl rfl (hcpB _ (fun _=>rfl) (fun _=>rfl) _ _ _) ?_))
 go_region_law_o (refine step_copy_runI rfl _ _ 77 77 rfl (.slice (some ⟨w.heap.size,(i+m)*5,none⟩) (n+m-(i+m)) (G-(i+m))) (.slice (some ⟨b,off+i*5,none⟩) (n-i) (c-i)) (by simp[Act.eval,Act.put]) (by simp[Act.eval,Act.put]) (hcpB _ hF1 hF2 3 (G-(i+m)) (c-i)) ?_)
 go_wp2
 go_ret
 exact⟨rfl,rfl⟩
open Go.RowKit P
def ace:Yi prog 98 (84,5,72) where
 callable:=⟨_,func98,by kernel_rfl,by kernel_rfl⟩
 pos:=by decide
 calls w go Y u u' i n m cs cs' h1 h2 Z hl p ho q hi hm D:=by
  simp only at *;obtain⟨o,I,J,rfl,rfl,V,b2,b3,b4,b5⟩:∃g c arr,Y=some g∧u'=.slice (some ⟨g.1,g.2,none⟩) m c∧w.heap[g.1]? = some (.cells arr 84 (0,0))∧c*5+g.2=arr.size∧m<=c∧c<=maxLen∧∀(j:Nat) x,cs'[j]? = some x->arr[g.2+j]? = some x:=by
   rcases h2 with⟨g,c,arr,k⟩|⟨_,rfl,_⟩
   ·exact⟨g,c,arr,by simpa using k⟩
   ·omega
  have r:∀(j:Nat) v,cs'[j]? = some v->w.cell? ⟨o.1,o.2+j,none⟩=some v:=fun j v b=>by simp[World.cell?,V,b5 j v b]
  rcases h1 with⟨g,c,arr,rfl,rfl,F,a2,a3,K,a5⟩|⟨rfl,rfl,rfl,A,rfl⟩
  ·have H:∀(j:Nat) v,cs[j]? = some v->w.cell? ⟨g.1,g.2+j,none⟩=some v:=fun j v b=>by simp[World.cell?,F,a5 j v b]
   have L:∀j,w.frozen? ⟨g.1,j,none⟩=false:=fun j=>by simp[World.frozen?,F]
   have aa:g.1≠o.1:=Z g o rfl rfl;have ah:g.1<w.heap.size:=(aiv.1 F).1;have hsp:∀j,j<(n+m)*5->n+m<=c->(w.cell? ⟨g.1,g.2+j,none⟩).isSome=true:=fun j b hr=>by
    simp only[World.cell?,F];rw[ajC (by omega)];rfl
   by_cases ab:i=n
   ·subst ab;have ht:cs.take (i*5)=cs:=ajU (by omega);have hd:cs.drop (i*5)=[]:=akk (by omega);rw[ht,hd,akr]
    by_cases d:i+m<=c
    ·refine (Md g.1 g.2 i c o.1 o.2 m I cs' w hm d (by unfold maxLen at K;omega) p (fun j b=>by have:=hsp (i*5+j) (by omega) d;rwa [<- aiM]at this) L r q).mono fun e W ⟨z,B⟩ =>?_;subst B;obtain⟨M,N,O,X,e5,l,P,e7,Q⟩:=gR g.1 cs' (g.2+i*5) w arr F (by omega);refine⟨_,z,⟨M,N,O,by omega,fun k hk hn=>e5 k (fun h=>hn ⟨g,rfl,h⟩)⟩,g,c,l,rfl,.inr ⟨g,rfl,rfl⟩,P,d,K,by omega,fun j x b =>?_⟩;rw[Q]
     by_cases S:j<i*5
     ·rw[if_neg (by omega)];rw[ai5 (by omega)]at b;exact a5 j x b
     ·have f:=(aiU.1 b).1;rw[ajB]at f;rw[ai6 (by omega)]at b;rw[if_pos (by omega)];rw[<- b];congr 1;omega
    ·refine (A8 (some ⟨g.1,g.2,none⟩) i c o.1 o.2 m I cs cs' w hm a3 (by unfold maxLen at K;omega) (by omega) D hl p (fun h=>by cases h) (fun a ha j v b=>by cases ha;rw[alL];exact H j v b) r q).mono fun e W ⟨z,B⟩ =>?_;subst B;have s:=grownCap_ge w (i+m) c 84;have t:=pb (grownCap w (i+m) c 84-(i+m));refine⟨_,z,ee.uu ((Below.refl _ w).drew.alloc (by simp) _),(w.heap.size,0),_,_,rfl,.inl (air _),heap_alloc_new w.drew _,s,grownCap_le_maxLen _ _ _ _ (by unfold maxLen;omega),?_,fun j x b =>?_⟩
     ·rw[ai7]at t;simp only[ajM,ajN,ajB,t];omega
     ·have f:=(aiU.1 b).1;rw[ajf,ake (by simpa using f)];simpa using b
   ·have E:i<n:=by omega
    by_cases d:n+m<=c
    ·refine (Xd g.1 g.2 n c i o.1 o.2 m I cs cs' w E hm d (by unfold maxLen at K;omega) (Ne.symm aa) hl p H (fun j b=>hsp j b d) L r ho q 84 84 J.size arr.size (by simp[World.shape?,V]) (by simp[World.shape?,F]) (by omega) (by simp[World.frozen?,V]) (by simp[World.frozen?,V])).mono fun e W ⟨z,B⟩ =>?_;subst B;obtain⟨M,N,O,X,e5,l,P,e7,Q⟩:=gR g.1 (cs.drop (i*5)) (g.2+(i+m)*5) w.drew arr F (by simp;omega);obtain⟨f1,f2,f3,f4,f5,y,f6,f7,f8⟩:=gR g.1 cs' (g.2+i*5) _ l P (by omega);refine⟨_,z,⟨f1.trans M,f2.trans N,f3.trans O,by rw[f4,X];exact air _,fun k hk hn=>(f5 k (fun h=>hn ⟨g,rfl,h⟩)).trans (e5 k (fun h=>hn ⟨g,rfl,h⟩))⟩,g,c,y,rfl,.inr ⟨g,rfl,rfl⟩,f6,d,K,by omega,fun j x b =>?_⟩;have f:=(aiU.1 b).1;simp only[ajB,aiK,aiL]at f;rw[f8,Q]
     by_cases C:j<i*5
     ·rw[ai5 (by rw[aiK];omega),aiH,if_pos C]at b;rw[if_neg (by omega),if_neg (by simp;omega)];exact a5 j x b
     ·rw[ai6 (by rw[aiK];omega),aiK,ajF (by omega)]at b
      by_cases S:j<(i+m)*5
      ·rw[ai5 (by omega)]at b;rw[if_pos (by omega),<- b];congr 1;omega
      ·rw[ai6 (by omega)]at b;rw[if_neg (by omega),if_pos (by simp;omega),<- b];congr 1;omega
    ·refine (ZY g.1 g.2 n c i o.1 o.2 m I cs cs' w E hm a3 (by omega) D hl p H r ho q).mono fun e W ⟨z,B⟩ =>?_;subst B;have s:=grownCap_ge w (n+m) c 84;generalize hG:grownCap w (n+m) c 84=G at *;have T:=pb (n+m-i);have U:=pb (G-(n+m));rw[ai7]at T U;generalize hR:((cs.take (i*5)).toArray++Builtin.zeroCells nC.cells (n+m-i)++Builtin.zeroCells nC.cells (G-(n+m)))=R;have ai:R.size=G*5:=by subst hR;simp only[ajM,ajN,aiK,T,U];omega
     have ad:∀j,j<i*5->R[j]? = cs[j]?:=fun j b=>by
      subst hR;rw[Array.append_assoc,ake (by simp;omega)];simp[aiH,b]
     have ae:(w.alloc (.cells R 84)).drew.heap[w.heap.size]? = some (.cells R 84 (0,0)):=heap_alloc_new w _;obtain⟨M,N,O,X,e5,l,P,e7,Q⟩:=gR w.heap.size cs' (i*5) _ R ae (by omega);obtain⟨f1,f2,f3,f4,f5,y,f6,f7,f8⟩:=gR w.heap.size (cs.drop (i*5)) ((i+m)*5) (((w.alloc (.cells R 84)).drew.setCells w.heap.size (i*5) cs').drew) l P (by simp;omega);refine⟨_,z,⟨f1.trans M,f2.trans N,f3.trans O,?_,fun k hk hn =>?_⟩,(w.heap.size,0),G,y,rfl,.inl (air _),f6,s,hG ▸ grownCap_le_maxLen _ _ _ _ (by unfold maxLen;omega),by simp only;omega,fun j x b =>?_⟩
     ·rw[f4];show _<=((w.alloc (.cells R 84)).drew.setCells w.heap.size (i*5) cs').heap.size;rw[X];show _<=(w.alloc (.cells R 84)).heap.size;simp
     ·rw[f5 k (by omega)];show ((w.alloc (.cells R 84)).drew.setCells w.heap.size (i*5) cs').heap[k]? = _;rw[e5 k (by omega)];exact Below.heap_alloc w _ k hk
     ·have f:=(aiU.1 b).1;simp only[ajB,aiK,aiL]at f;rw[ajf,f8,Q]
      by_cases C:j<i*5
      ·rw[ai5 (by rw[aiK];omega),aiH,if_pos C]at b;rw[if_neg (by omega),if_neg (by omega),ad j C,b]
      ·rw[ai6 (by rw[aiK];omega),aiK,ajF (by omega)]at b
       by_cases S:j<(i+m)*5
       ·rw[ai5 (by omega)]at b;rw[if_neg (by omega),if_pos (by omega),<- b]
       ·rw[ai6 (by omega)]at b;rw[if_pos (by simp;omega),<- b];congr 1;omega
  ·have ag:i=0:=by omega
   subst ag;refine (A8 A 0 0 o.1 o.2 m I [] cs' w hm (air _) (by omega) (by omega) (by omega) rfl p (fun _=>rfl) (fun a ha j v b=>by simp at b) r q).mono fun e W ⟨z,B⟩ =>?_;subst B;have s:=grownCap_ge w (0+m) 0 84;have t:=pb (grownCap w (0+m) 0 84-(0+m));refine⟨_,z,ee.uu ((Below.refl _ w).drew.alloc (by simp) _),(w.heap.size,0),_,_,rfl,.inl (air _),heap_alloc_new w.drew _,s,grownCap_le_maxLen _ _ _ _ (by unfold maxLen;omega),?_,fun j x b =>?_⟩
   ·rw[ai7]at t;simp only[ajM,ajN,List.nil_append,t];omega
   ·simp only[ako,List.take_nil,List.drop_nil,List.nil_append,akr]at b;have f:=(aiU.1 b).1;rw[ajf,ake (by simpa using f)];simpa using b
def abV {α:Type} (E:iF α) (D:E.size=5):bZ prog 57 (mkE 84 E (fK (aI .i64) (dy (aI .i64))) (fun (l:List α) (x:Int×Int)=>Y4 l x.1 x.2)) where
 callable:=⟨_,func57,by kernel_rfl,by kernel_rfl⟩
 calls lent ds rk out hg:=by
  obtain⟨f,l,ar,a,r,rfl,rfl,X,rfl,rfl⟩:=P5 hg;obtain⟨ai,Y⟩:=a;unfold Y4 at X;split at X;rotate_left
  ·cases X
  rename_i F;obtain⟨aa,ab,ad,au⟩:=F;simp only at aa ab ad;cases X;intro w M go u0 vs hM av hz ay L ag n;have ah:vs = #[.int .i64 ai,.int .i64 Y]:=by
   have G:vs.size=2:=n.size;have e0:=R9 (n.at_ 0 (.int .i64 ai) rfl);have e1:=R9 (n.at_ 1 (.int .i64 Y) rfl);apply ajE
   ·simp[G]
   ·intro k Z h3;have:k=0∨k=1:=by omega
    rcases this with rfl|rfl
    ·simpa [aiw,ajC Z] using e0
    ·simpa [aiw,ajC Z] using e1
  subst ah;simp only;obtain⟨i,rfl⟩:∃i:Nat,ai=(i:Int):=⟨ai.toNat,by omega⟩;obtain⟨j,rfl⟩:∃j:Nat,Y=(j:Int):=⟨Y.toNat,by omega⟩;simp only[Int.toNat_natCast];have aw:i<=j:=by omega
  have H:j<=l.length:=by omega
  have u:(l.take i++l.drop j).length=i+(l.length-j):=by rw[ajB,aiK,aiL];omega
  have O:(ae E l).length=l.length*5:=by rw[bA,D]
  have P:ae E (l.take i++l.drop j)=(ae E l).take (i*5)++(ae E l).drop (j*5):=by rw[gQ,<- D,lr,oP]
  rcases ag.2 ⟨0,0,[],false,false,false⟩ rfl rfl with⟨g,o',c,N,t,k0,k1,k2,k3,k4,k5⟩|⟨k0,ak,A,k1⟩
  ·cases k0;subst k1;rw[D]at k2;obtain⟨cs,G,Z,h3⟩:=L;simp only[ajB,O]at Z;have hN:N=cs.size:=by
    simp only[World.shape?,G,aiA,Prod.mk.injEq]at k5;exact k5.2.symm
   have z:c<=9223372036854775807:=by unfold maxLen at k4;omega
   by_cases al:i=j
   ·subst al;have I:l.take i++l.drop i=l:=akn i l;rw[I];refine (Oa (some ⟨g.1,o',none⟩) l.length c i w H k3 z (fun h=>by cases h)).mono fun e w' ⟨Q,R⟩ =>?_;subst R;refine⟨_,Q,⟨rfl,rfl,rfl,air _,fun k _ _=>rfl⟩,trivial,?_⟩
    by_cases an:0<c∨f.length=0
    ·obtain⟨k6,k7⟩:=k2 an;refine .inl ⟨(g.1,o'),c,cs,rfl,.inr ⟨g,rfl,rfl⟩,G,k3,k4,by rw[D];omega,?_,fun k d m =>?_⟩
     ·simp only;rw[O];omega
     ·have o:=(aiU.1 m).1;have:=h3 (f.length+k) d (by rw[ai6 (by omega),ajR,ai5 o];exact m);simp only;rw[k6,aiM];exact⟨this.1,this.2.less fun b hb=>hb.imp id fun h=>⟨g,rfl,h⟩⟩
    ·have:c=0:=by omega
     subst this;have J:l=[]:=ajL (by omega);subst J;exact .inr ⟨rfl,rfl,_,rfl⟩
   ·have ao:i<j:=by omega
    obtain⟨k6,k7⟩:=k2 (.inl (by omega));subst k6;obtain⟨CS,p⟩:∃CS:List Value,CS=(List.range (l.length*5)).map fun k=>cs.getD (g.2+(f.length+k)) undef:=⟨_,rfl⟩;have S:CS.length=l.length*5:=by rw[p];simp
    have y:∀k,k<l.length*5->CS[k]? = some (cs.getD (g.2+(f.length+k)) undef):=fun k m=>by rw[p,aio,List.getElem?_range m];rfl
    have B:∀k d,(ae E l)[k]? = some d->bn d=true∧RP w (fun b=>M b∨uQ (some g) b) d (cs.getD (g.2+(f.length+k)) undef):=fun k d m=>by
     have o:=(aiU.1 m).1;exact h3 (f.length+k) d (by rw[ai6 (by omega),ajR,ai5 o];exact m)
    have K:∀k v,CS[k]? = some v->w.cell? ⟨g.1,g.2+f.length+k,none⟩=some v:=fun k v m=>by
     have o:=(aiU.1 m).1;rw[y k (by omega)]at m;have:=aW G (j:=g.2+f.length+k) (by omega);rw[this,aiM];exact m
    have T:∀v∈CS,v.oneCell'=true:=fun v hv=>by
     obtain⟨k,m⟩:=aiN hv;have o:=(aiU.1 m).1;rw[y k (by omega)]at m;obtain⟨p1,p2⟩:=B k _ (aiE (by omega));have:=p2.qO p1
     rwa [Option.some.inj m]at this
    refine (Y6 g.1 (g.2+f.length) l.length c i j CS w S K (fun k=>by simp[World.frozen?,G]) T k3 z ao H).mono fun e w' ⟨Q,R⟩ =>?_;have az:=pb (l.length-(i+(l.length-j)));have aA:(CS.drop (j*5)).length=(l.length-j)*5:=by rw[aiL,S,Nat.sub_mul]
    obtain⟨e1,e2,e3,e4,e5,U,e6,e7,e8⟩:=gR g.1 (CS.drop (j*5)) (g.2+f.length+i*5) w.drew cs G (by omega);obtain⟨f1,f2,f3,f4,f5,q,f6,f7,f8⟩:=gR g.1 (Builtin.zeroCells nC.cells (l.length-(i+(l.length-j)))).toList (g.2+f.length+(i+(l.length-j))*5) _ U e6 (by omega);rw[<- R]at f1 f2 f3 f4 f5 f6;have s:ee (uQ (some g)) w w':=⟨f1.trans e1,f2.trans e2,f3.trans e3,by rw[f4,e4];exact air _,fun k m hn=>(f5 k (fun h=>hn ⟨g,rfl,h⟩)).trans (e5 k (fun h=>hn ⟨g,rfl,h⟩))⟩;refine⟨_,Q,s,trivial,.inl ⟨(g.1,g.2+f.length),c,q,by rw[u],.inr ⟨g,rfl,rfl⟩,f6,by rw[u];omega,k4,by rw[D];simp only;omega,?_,fun k d m =>?_⟩⟩
    ·simp only;rw[bA,D,u];omega
    ·have o:=(aiU.1 m).1;rw[bA,D,u]at o;rw[P]at m;have C:∀V:Nat,(ae E l)[V]? = some d->CS[V]? = q[g.2+f.length+k]?->bn d=true∧RP w' (fun b=>M b∨b=g.1) d (q.getD (g.2+f.length+k) undef):=by
      intro V W hv;have ax:=(aiU.1 W).1;obtain⟨p1,p2⟩:=B V d W;rw[y V (by omega)]at hv;refine⟨p1,?_⟩;rw[aiw,<- hv];refine p2.keep fun b q1 q2=>⟨aiu q1 s.size,?_,s.block b q1 (fun hn=>q2 (.inr hn))⟩;rintro (hb|hb)
      ·exact q2 (.inl hb)
      ·exact q2 (.inr ⟨g,rfl,hb⟩)
     simp only
     by_cases aq:k<i*5
     ·rw[ai5 (by rw[aiK];omega),aiH,if_pos aq]at m;apply C k m;rw[f8,if_neg (by omega),e8,if_neg (by omega),y k (by omega),aiw,aiM,ajC (show g.2+(f.length+k)<cs.size by omega)];rfl
     ·rw[ai6 (by rw[aiK];omega),aiK,ajF (by omega),aiI]at m;refine C (j*5+(k-i*5)) m ?_;rw[f8,if_neg (by omega),e8,if_pos (by omega),aiI];congr 1;omega
  ·subst k1;have J:l=[]:=ajL ak;subst J;simp only[List.length_nil]at H;obtain rfl:j=0:=by omega
   obtain rfl:i=0:=by omega
   refine (Oa A 0 0 0 w (air _) (air _) (by decide) (fun _=>rfl)).mono fun e w' ⟨Q,R⟩ =>?_;subst R;exact⟨_,Q,⟨rfl,rfl,rfl,air _,fun k _ _=>rfl⟩,trivial,.inr ⟨rfl,rfl,_,rfl⟩⟩
end Go.Proofs.YtokgehacmjmfkaaGreat.Am
namespace Go.Proofs.YtokgehacmjmfkaaGreat.P
def Xc {α:Type} (c:α->α->Int) (x:α):List α->List α
 | []=>[x]
 | y::l=>if c x y<=0 then x::y::l else y::Xc c x l
def qm {α:Type} (c:α->α->Int):List α->List α
 | []=>[]
 | x::l=>Xc c x (qm c l)
def Cp {α:Type} (c:α->α->Int) (x:α):∀l:List α,(Xc c x l).Perm (x::l)
 | []=>akF _
 | y::l=>by
  unfold Xc;split
  ·exact akF _
  ·exact ((Cp c x l).cons y).trans (List.Perm.swap x y l)
def jm {α:Type} (c:α->α->Int):∀l:List α,(qm c l).Perm l
 | []=>akF _
 | x::l=>(Cp c x _).trans ((jm c l).cons x)
def oR {α:Type} (c:α->α->Int) (l:List α):(qm c l).length=l.length:=(jm c l).length_eq
structure WO {α:Type} (c:α->α->Int):Prop where
 total:∀x y,c x y<=0∨c y x<=0
 neg:∀x y,c x y<0↔0<c y x
 trans:∀x y z,c x y<=0->c y z<=0->c x z<=0
def Dz {α:Type} {c:α->α->Int} (h:WO c) (x:α):∀l:List α,l.Pairwise (fun x y=>c x y<=0)->(Xc c x l).Pairwise (fun x y=>c x y<=0)
 | [],_=>List.pairwise_singleton _ _
 | y::l,hs=>by
  unfold Xc;obtain⟨e,f⟩:=aj9.1 hs;split
  ·rename_i b;refine aj9.2 ⟨fun z a =>?_,hs⟩;rcases aiy.1 a with rfl|a
   ·exact b
   ·exact h.trans _ _ _ b (e z a)
  ·rename_i b;have d:c y x<=0:=(h.total x y).resolve_left b;refine aj9.2 ⟨fun z a =>?_,Dz h x l f⟩;rcases aiy.1 ((Cp c x l).mem_iff.1 a) with rfl|a
   ·exact d
   ·exact e z a
def nT {α:Type} {c:α->α->Int} (h:WO c):∀l:List α,(qm c l).Pairwise (fun x y=>c x y<=0)
 | []=>List.Pairwise.nil
 | x::l=>Dz h x _ (nT h l)
def pB {α:Type} {c:α->α->Int} : ∀ {l m:List α},l.Perm m->(∀x∈l,∀y∈l,c x y<=0->c y x<=0->x=y)->l.Pairwise (fun x y=>c x y<=0)->m.Pairwise (fun x y=>c x y<=0)->l=m
 | [],m,d,_,_,_=>(List.Perm.nil_eq d)
 | x::l,[],d,_,_,_=>absurd d.symm (by intro h;have:=h.length_eq;simp at this)
 | x::l,y::m,d,ha,i,hm=>by
  obtain⟨j,k⟩:=aj9.1 i;obtain⟨n,o⟩:=aj9.1 hm;have e:x=y:=by
   by_cases f:x=y
   ·exact f
   ·have g:y∈l:=by
     have:y∈x::l:=d.mem_iff.2 aj2;rcases aiy.1 this with h|h
     ·exact absurd h.symm f
     ·exact h
    have p:x∈m:=by
     have:x∈y::m:=d.mem_iff.1 aj2;rcases aiy.1 this with h|h
     ·exact absurd h f
     ·exact h
    exact ha x aj2 y (aj3 _ g) (j y g) (n x p)
  subst e;rw[pB ((List.perm_cons x).1 d) (fun a q b r=>ha a (aj3 _ q) b (aj3 _ r)) k o]
open Classical in
def DR {α:Type} (c:α->α->Int) (l:List α):Option (List α×Unit):=if l.length<4611686018427387904∧∀x∈l,∀y∈l,c x y=0->x=y then some (qm c l,()) else none
end Go.Proofs.YtokgehacmjmfkaaGreat.P
namespace Go.Proofs.YtokgehacmjmfkaaGreat.Am
open Go.RowKit P
def YE (b:Bool) (a:List Value):Value:=if b then .agg a.toArray else a.getD 0 undef
def IsV {α:Type} (E:iF α) (w:World) (M:Nat->Prop) (x:α) (a:List Value):Prop:=a.length=E.size∧∀j d,(E.cells x)[j]? = some d->bn d=true∧RP w M d (a.getD j undef)
def afd {α:Type} (P:Program) (g:FuncId) (a:Bool) (E:iF α) (c:α->α->Int):Prop:=∀(w:World) (M:Nat->Prop) (x y:α) (d f:List Value),(∀b,M b->b<w.heap.size)->IsV E w M x d->IsV E w M y f ->
 Calls P g #[YE a d,YE a f] w fun e h=>e=.returned (.int .i64 (c x y))∧∃q i,h=Go.Sort.grow (w.drewN q) i
def ac6 (P:Program) (f g:FuncId) (p:Bool) (k:Nat):Prop:=∀(β:Type) (_:Inhabited β) (enc:β->List Value) (c:β->β->Int),(∀x,(enc x).length=k)->(∀x,∀v∈enc x,v.oneCell'=true)->Go.Sort.SWO (ltOf c)->∀(blk a h:Nat) (d:Array β) (w:World),
 (∀(m:Nat) (b:Array Obj) (i:Array β),i.size=d.size->∀x y:β,Calls P g #[YE p (enc x),YE p (enc y)] (sortWorldK enc k w blk a m i b) fun e j=>e=.returned (.int .i64 (c x y))∧∃q l,j=Go.Sort.grow ((sortWorldK enc k w blk a m i b).drewN q) l) ->
 Go.Sort.HoldsK enc k w blk a d->blk<w.heap.size->d.size<4611686018427387904 ->
 Calls P f #[.slice (some ⟨blk,a,none⟩) d.size h,.func (.func g) #[] #[]] w fun e j=>e=.returned (.tuple #[])∧∃o n b,Go.Sort.PermIn 0 d.size d o∧Go.Sort.SortedIn (ltOf c) 0 d.size o∧j=sortWorldK enc k w blk a n o b
def U1 {α:Type} (E:iF α) {l:List α} {i j:Nat} {x:α} (b:l[i]? = some x) (c:j<E.size):(ae E l)[i*E.size+j]? = (E.cells x)[j]?:=by
 have d:((ae E l).drop (i*E.size))[j]? = (ae E l)[i*E.size+j]?:=aiI;have e:l.drop i=x::l.drop (i+1):=by
  obtain⟨a,rfl⟩:=aiU.1 b;exact akw a
 rw[<- d,oP,e,bk,ai5 (by rw[E.len];exact c)]
section
variable {β:Type} [Inhabited β] {enc:β->List Value} {k:Nat}
def MF {w:World} {b a:Nat} {d:Array β} {c:Array Value} {e:Nat} {f:Nat×Nat} (h:w.heap[b]? = some (.cells c e f)):(Go.Sort.putRowK enc k w b a d).heap[b]? = some (.cells (Go.Sort.putCells id a (Go.Sort.flatK enc k d) c) e f):=by
 simp[Go.Sort.putRowK,Go.Sort.putRow,Go.Sort.mapBlock,aiB,h,Go.Sort.onCells]
def Ec {w:World} {b c a:Nat} {d:Array β} (h:c≠b):(Go.Sort.putRowK enc k w b a d).heap[c]? = w.heap[c]?:=by
 simp[Go.Sort.putRowK,Go.Sort.putRow,Go.Sort.mapBlock,aiB,Ne.symm h]
def zk {w:World} {b c a m:Nat} {d:Array β} {e:Array Obj} (f:c<w.heap.size) (h:c≠b):(sortWorldK enc k w b a m d e).heap[c]? = w.heap[c]?:=by
 unfold sortWorldK;rw[Go.Sort.heap_grow_old _ _ (by simpa [Go.Sort.putRowK,Go.Sort.ahead] using f),Ec h];rfl
def qh {w:World} {b a m:Nat} {d:Array β} {c:Array Obj} : w.heap.size<=(sortWorldK enc k w b a m d c).heap.size:=by
 simp[sortWorldK,Go.Sort.putRowK,Go.Sort.ahead]
def Iv {w:World} {b a m:Nat} {d:Array β} {g:Array Obj} {c:Array Value} {e:Nat} {f:Nat×Nat} (h:w.heap[b]? = some (.cells c e f)):(sortWorldK enc k w b a m d g).heap[b]? = some (.cells (Go.Sort.putCells id a (Go.Sort.flatK enc k d) c) e f):=by
 have i:=(aiv.1 h).1;unfold sortWorldK;rw[Go.Sort.heap_grow_old _ _ (by simpa [Go.Sort.putRowK,Go.Sort.ahead] using i)];exact MF h
def Ir {a:Nat} {d:Array β} {b:Array Value} {j:Nat} (c:j<b.size):(Go.Sort.putCells id a (Go.Sort.flatK enc k d) b).getD j undef=if a<=j∧j<a+d.size*k then (enc d[(j-a) / k]!)[(j-a) % k]! else b.getD j undef:=by
 have e:(Go.Sort.putCells id a (Go.Sort.flatK enc k d) b)[j]? = some (if a<=j∧j<a+d.size*k then (enc d[(j-a) / k]!)[(j-a) % k]! else b[j]):=by
  simp only[Go.Sort.putCells,Array.getElem?_mapIdx,ajC c,Option.map_some,Go.Sort.size_flatK];congr 1;split
  ·rename_i f;rw[Go.Sort.get_flatK _ _ _ _ (by omega)];rfl
  ·rfl
 rw[aiw,e];simp[aiw,c]
end
def aeR {α β:Type} {c:α->α->Int} (h:WO c) (f:β->α):Go.Sort.SWO (ltOf fun x y=>c (f x) (f y)) where
 irrefl x:=by
  simp only[ltOf,decide_eq_false_iff_not];intro e;have:=(h.neg _ _).1 e;omega
 trans x y z h1 h2:=by
  simp only[ltOf,decide_eq_true_eq]at h1 h2 ⊢
  by_cases a:c (f x) (f z)<0
  ·exact a
  ·have b:c (f z) (f x)<=0:=by
    have:=(h.neg (f z) (f x));rcases akG (c (f z) (f x)) 0 with q|q|q
    ·omega
    ·omega
    ·exact absurd ((h.neg (f x) (f z)).2 q) a
   have d:=h.trans _ _ _ b (Int.le_of_lt h1);have g:=(h.neg _ _).1 h2;omega
 ntrans x y z h1 h2:=by
  simp only[ltOf,decide_eq_false_iff_not]at h1 h2 ⊢;intro a;have b:c (f y) (f x)<=0:=by
   by_cases q:0<c (f y) (f x)
   ·exact absurd ((h.neg _ _).2 q) h1
   ·omega
  have d:c (f z) (f y)<=0:=by
   by_cases q:0<c (f z) (f y)
   ·exact absurd ((h.neg _ _).2 q) h2
   ·omega
  have g:=h.trans _ _ _ d b;have i:=(h.neg _ _).1 a;omega
def G6 {β:Type} [Inhabited β] {d a:Array β} (h:Go.Sort.PermIn 0 d.size d a):a.toList.Perm d.toList:=by
 obtain⟨b,-,c⟩:=h;have e:(d.extract 0 d.size)=d:=by simp
 have f:(a.extract 0 d.size)=a:=by rw[<- b];simp
 rwa [e,f]at c
def aaQ {α:Type} {E:iF α} {c:α->α->Int} {P:Program} {f g:FuncId} {fn:Func} {ag:Bool} {ty:Nat} {F:List α->Option (List α×Unit)} (hf:P.funcs[f]? = some fn) (hc:(fn.name == "runtime.NumGoroutine")=false∧fn.body.isNone=false)
  (hF:∀l,F l=DR c l) (h0:∀p aA w,Calls P f #[.slice p 0 aA,.func (.func g) #[] #[]] w fun e w'=>e=.returned (.tuple #[])∧w'=w) (hO:WO c) (hcmp:afd P g ag E c) (hS:ac6 P f g ag E.size) :
  bZ P f (mkW ty E (dy (Yc g)) (fun l (_:Unit)=>F l) (fun _:Unit =>.clean (.tup []))) where
 callable:=⟨fn,hf,hc⟩
 calls lent la rk out hg:=by
  obtain⟨h,l,H,a,l',r,rfl,rfl,hr,rfl,rfl⟩:=P6 hg;rw[hF]at hr;unfold DR at hr
  by_cases C:l.length<4611686018427387904∧∀x∈l,∀y∈l,c x y=0->x=y
  ·rw[if_pos C]at hr;obtain⟨al,hanti⟩:=C;obtain rfl:qm c l=l':=congrArg Prod.fst (Option.some.inj hr);intro w M q u0 vs hM aI hz aJ L an G;have aB:vs = #[.func (.func g) #[] #[]]:=by
    have Z:=G.1;have h2:=G.2 0 (.fn g) rfl;have h3:vs.size=1:=Z;cases hv:vs.getD 0 undef<;>rw[hv]at h2<;>cases h2;apply ajE
    ·simp[h3]
    ·intro i i1 i2;have:i=0:=by omega
     subst this;simpa [Array.getD,h3] using hv
   subst aB
   by_cases hl:l=[]
   ·subst hl;have hu:∃p cp,u0=.slice p 0 cp:=by
     rcases an.2 ⟨0,0,[],false,false,false⟩ rfl rfl with⟨g',o',cp,N,t,k0,k1,k2,k3,k4,k5⟩|k0
     ·exact⟨_,_,k1⟩
     ·obtain⟨_,_,A,k1⟩:=k0;exact⟨_,_,k1⟩
    obtain⟨p,cp,rfl⟩:=hu;refine (h0 p cp w).mono fun e w' ⟨he,hw⟩ =>?_;subst hw;exact⟨.tuple #[],he,⟨rfl,rfl,rfl,air _,fun _ _ _=>rfl⟩,⟨rfl,rfl,⟨rfl,rfl⟩,fun g' T=>rfl,L⟩,.tup [] [] rfl (fun j x o=>by simp at o)⟩
   ·have hk:=E.pos;have V:0<l.length:=akq.2 hl;cases q with
    | none =>
     have aC:h++(ae E l++H)=[]:=L;have:=congrArg List.length aC;rw[ajB,ajB,bA,aiS]at this;have:=akH V hk;omega
    | some q =>
     obtain⟨cs,Z,h2,h3⟩:=L;simp only[ajB,bA]at h2;generalize aa:(fun b=>M b∨uQ (some q) b)=M' at h3 G ⊢;have ao:M' q.1:=by rw[<- aa];exact .inr ⟨q,rfl,rfl⟩
     have aq:q.1<w.heap.size:=(aiv.1 Z).1;have ab:∀b,M' b->b<w.heap.size:=by
      intro b hb;rw[<- aa]at hb;rcases hb with hb|⟨g',T,rfl⟩
      ·exact hM b hb
      ·cases T;exact aq
     rcases an.2 ⟨0,0,[],false,false,false⟩ rfl rfl with⟨g',o',cp,N,t,k0,k1,k2,k3,k4,k5⟩|⟨k0,_⟩;rotate_left
     ·cases k0
     cases k0;obtain⟨rfl,k6⟩:=k2 (.inl (by omega));subst k1;have ar:∀i,i<l.length->i*E.size+E.size<=l.length*E.size:=by
      intro i I;have:=ajd E.size (show i+1<=l.length from I)
      rwa [ajp]at this
     have s:∀i (I:i<l.length),IsV E w M' l[i] ((List.range E.size).map fun j=>cs.getD (q.2+h.length+(i*E.size+j)) undef):=by
      intro i I;refine⟨by simp,fun j d o =>?_⟩;have au:j<E.size:=by
       have:=(aiU.1 o).1
       rwa [E.len]at this
      have hd:(h++(ae E l++H))[h.length+(i*E.size+j)]? = some d:=by
       have:=ar i I;rw[ai6 (by omega),ajR,ai5 (by rw[bA];omega),U1 E (aiE I) au,o]
      have:=h3 _ _ hd;rw[<- aiM]at this;simpa [List.getD,au] using this
     let β:={ p:α×List Value // IsV E w M' p.1 p.2 }
     let enc:β->List Value:=fun p=>p.1.2
     let O:List β:=List.ofFn fun i:Fin l.length=>(⟨(l[i.1],_),s i.1 i.2⟩:β)
     have K:O.length=l.length:=by simp[O]
     have av:∀i (I:i<l.length),O[i]? = some ⟨(l[i],_),s i I⟩:=by
      intro i I;simp[O,I]
     have aw:Inhabited β:=⟨⟨(l[0],_),s 0 V⟩⟩;have ax:O.map (fun p=>p.1.1)=l:=by
      apply akE;intro i
      by_cases I:i<l.length
      ·rw[aio,av i I,aiE I];rfl
      ·rw[aj7 (by simp[K];omega),aj7 (by omega)]
     have Q:∀x:β,(enc x).length=E.size:=fun x=>x.2.1;have ay:∀x:β,∀v∈enc x,v.oneCell'=true:=by
      intro x v hv;obtain⟨j,o⟩:=aiN hv;have ad:=(aiU.1 o).1;rw[Q]at ad;obtain⟨p1,p2⟩:=x.2.2 j _ (aiE (by rw[E.len];exact ad));have:x.1.2.getD j undef=v:=by simp only[ai4];rw[show x.1.2[j]? = some v from o];rfl
      rw[this]at p2;exact p2.qO p1
     have z:∀ {m:Nat} {dk:Array β} {os:Array Obj} {d:D} {u:Value},RP w M' d u->RP (sortWorldK enc E.size w q.1 (q.2+h.length) m dk os) M' d u:=by
      intro m dk os d u hu;refine hu.keep fun b q1 q2=>⟨aiu q1 qh,q2,?_⟩;exact zk q1 (fun e=>q2 (e ▸ ao))
     have hH:Go.Sort.HoldsK enc E.size w q.1 (q.2+h.length) O.toArray:=by
      intro j o;simp only[Go.Sort.size_flatK,ajN,K]at o;refine⟨?_,by simp[World.frozen?,Z]⟩;have hq:j / E.size<l.length:=akp (by rwa [ajq]);have J:j % E.size<E.size:=ajm _ hk;have ah:j / E.size*E.size+j % E.size=j:=by rw[ajq];exact akI j E.size
      rw[Go.Sort.get_flatK _ _ _ _ (by simpa [K] using o),aW Z (j:=q.2+h.length+j) (by omega)];have e1:(O.toArray)[j / E.size]! = ⟨(l[j / E.size],_),s _ hq⟩:=by
       have h5:=av _ hq;rw[getElem!_pos O.toArray (j / E.size) (by simpa [K] using hq)];have:=(aiU.1 h5).2;simpa using this
      rw[e1];show some _=some (((List.range E.size).map fun j'=>cs.getD (q.2+h.length+(j / E.size*E.size+j')) undef)[j % E.size]!);rw[getElem!_pos _ _ (by simpa using J)];simp[ah]
     have aD:=aeR hO (fun p:β=>p.1.1);have R:=hS β aw enc (fun x y=>c x.1.1 y.1.1) Q ay aD q.1 (q.2+h.length) cp O.toArray w (fun m os dk aK x y=>hcmp _ M' x.1.1 y.1.1 x.1.2 y.1.2 (fun b hb=>aiu (ab b hb) qh) ⟨x.2.1,fun j d o=>⟨(x.2.2 j d o).1,z (x.2.2 j d o).2⟩⟩ ⟨y.2.1,fun j d o=>⟨(y.2.2 j d o).1,z (y.2.2 j d o).2⟩⟩) hH aq (by simpa [K] using al);have ai:O.toArray.size=l.length:=by simp[K]
     rw[ai]at R;refine R.mono fun e w' ⟨he,B,n,os,S,aj,hw⟩ =>?_;subst hw;have U:=G6 (by rw[ai];exact S);have W:B.size=l.length:=by have:=S.1;rw[this,ai]
     have aE:B.toList.map (fun p=>p.1.1)=qm c l:=by
      have ak:(B.toList.map (fun p=>p.1.1)).Perm l:=by
       have:=U.map (fun p:β=>p.1.1)
       rwa [show O.toArray.toList.map (fun p:β=>p.1.1)=l from ax]at this
      refine pB (ak.trans (jm c l).symm) (fun x hx y hy h4 h5=>hanti x (ak.mem_iff.1 hx) y (ak.mem_iff.1 hy) ?_) ?_ (nT hO l)
      ·have:=hO.neg x y;have:=hO.neg y x;omega
      ·rw[akJ];rw[akK];intro i j I o aF;simp only[Array.length_toList]at I o;have:=aj i j (ais _) aF (by omega);simp only[ltOf,decide_eq_false_iff_not]at this;rw[getElem!_pos B j (by omega),getElem!_pos B i (by omega)]at this;simp only[Array.getElem_toList];have h6:=hO.neg B[j].1.1 B[i].1.1;omega
     have X:(sortWorldK enc E.size w q.1 (q.2+h.length) n B os).heap[q.1]? = some (.cells (Go.Sort.putCells id (q.2+h.length) (Go.Sort.flatK enc E.size B) cs) ty (0,0)):=Iv Z;have Y:(Go.Sort.putCells id (q.2+h.length) (Go.Sort.flatK enc E.size B) cs).size=cs.size:=by simp[Go.Sort.putCells]
     refine⟨.tuple #[],he,⟨rfl,rfl,rfl,qh,fun k hk hn=>zk hk (fun e=>hn ⟨q,rfl,e⟩)⟩,⟨rfl,rfl,⟨rfl,rfl⟩,fun g' T =>?_,?_⟩,.tup [] [] rfl (fun j x o=>by simp at o)⟩
     ·cases T;simp[World.shape?,X,Z,Y]
     ·refine⟨_,X,?_,fun j d o =>?_⟩
      ·simp only[ajB,bA,oR,Y];exact h2
      ·have ad:j<h.length+(l.length*E.size+H.length):=by
        have:=(aiU.1 o).1;simpa [bA,oR] using this
       show _∧RP _ (fun b=>M b∨uQ (some q) b) d _;rw[aa,Ir (by omega),W]
       by_cases aG:h.length<=j∧j<h.length+l.length*E.size
       ·rw[if_pos (by omega)];have e1:q.2+j-(q.2+h.length)=j-h.length:=by omega
        rw[e1];have hq:(j-h.length) / E.size<l.length:=akp (by rw[ajq];omega);have J:(j-h.length) % E.size<E.size:=ajm _ hk;have ah:(j-h.length) / E.size*E.size+(j-h.length) % E.size=j-h.length:=by rw[ajq];exact akI _ _
        rw[ai6 aG.1,ai5 (by rw[bA,oR];omega),<- ah,<- aE,U1 E (x:=(B[(j-h.length) / E.size]!).1.1) (by
         rw[aio,aiE (by simpa [W] using hq),getElem!_pos B _ (by omega)];simp) J]at o
        obtain⟨p1,p2⟩:=(B[(j-h.length) / E.size]!).2.2 _ _ o;refine⟨p1,z ?_⟩;have e2:(enc B[(j-h.length) / E.size]!)[(j-h.length) % E.size]! = (B[(j-h.length) / E.size]!).1.2.getD ((j-h.length) % E.size) undef:=by
         rw[getElem!_pos _ _ (by rw[Q];exact J)];simp only[ai4];rw[aiE (by have:=(B[(j-h.length) / E.size]!).2.1;omega)];rfl
        rw[e2];exact p2
       ·rw[if_neg (by omega)];have az:(h++(ae E l++H))[j]? = some d:=by
         by_cases aH:j<h.length
         ·rw[ai5 aH]at o ⊢;exact o
         ·rw[ai6 (by omega),ai6 (by rw[bA,oR];omega),bA,oR]at o;rw[ai6 (by omega),ai6 (by rw[bA];omega),bA];exact o
        exact⟨(h3 j d az).1,z (h3 j d az).2⟩
  ·rw[if_neg C]at hr;cases hr
end Go.Proofs.YtokgehacmjmfkaaGreat.Am
namespace Go.Proofs.YtokgehacmjmfkaaGreat.P
def kL {α:Type} (f g:α->Int) (x y:α):Int:=if Go.Lib.compareInt (f x) (f y)≠0 then Go.Lib.compareInt (f x) (f y) else Go.Lib.compareInt (g x) (g y)
def CP {α:Type} {f g:α->Int} {x y:α} : kL f g x y<0↔f x<f y∨(f x=f y∧g x<g y):=by
 unfold kL Go.Lib.compareInt
 repeat' split
 all_goals omega
def CQ {α:Type} {f g:α->Int} {x y:α} : 0<kL f g x y↔f y<f x∨(f x=f y∧g y<g x):=by
 unfold kL Go.Lib.compareInt
 repeat' split
 all_goals omega
def xT {α:Type} {f g:α->Int} {x y:α} : kL f g x y<=0↔f x<f y∨(f x=f y∧g x<=g y):=by
 have a:=@CP α f g x y;have b:=@CQ α f g x y;omega
def TT {α:Type} {f g:α->Int} {x y:α} : kL f g x y=0↔f x=f y∧g x=g y:=by
 have a:=@CP α f g x y;have b:=@CQ α f g x y;omega
def uC {α:Type} (f g:α->Int):WO (kL f g) where
 total x y:=by rw[xT,xT];omega
 neg x y:=by rw[CP,CQ];omega
 trans x y z h1 h2:=by rw[xT]at *;omega
end Go.Proofs.YtokgehacmjmfkaaGreat.P
namespace Go.Proofs.YtokgehacmjmfkaaGreat.Am
open Go.RowKit Go.Lib Go.Sort Go.Shelf P
def acu (x:Int) (w:World):Calls prog 94 #[.int .i64 x] w fun e w'=>e=.returned (.bool false)∧w'=w:=by
 go_enter func94,ntmps94
 go_wp2
 go_ret
 exact⟨by simp,rfl⟩
def N6 (x y:Int) (w:World):Calls prog 50 #[.int .i64 x,.int .i64 y] w fun e w'=>e=.returned (.int .i64 (Lib.compareInt x y))∧w'=w:=by
 go_enter func50,ntmps50
 go_wp2_with (go_at_call 94;refine (acu _ _).mono ?_;rintro e w' ⟨rfl,hw⟩;rw[hw])
 all_goals (go_ret;refine⟨?_,rfl⟩;unfold Lib.compareInt;(repeat' split)<;>first|rfl|(exfalso;omega))
def aeD (b off cap:Nat) (x y r:Int) (hr:r=if x≠0 then x else y) (w:World) (h0:w.cell? ⟨b,off,none⟩=some (.int .i64 x)) (h1:w.cell? ⟨b,off+1,none⟩=some (.int .i64 y)):Calls prog 49 #[.slice (some ⟨b,off,none⟩) 2 cap] w fun e w'=>e=.returned (.int .i64 r)∧w'=w:=by
 go_enter func49,ntmps49
 go_wp2
 refine wp_loop_rounds 3 ?_;repeat any_goals (rw[rounds_succ];go_wp2)
 all_goals (go_ret;refine⟨?_,rfl⟩;subst hr;simp_all)
def HM (W:World) (A B:Obj) (q:Nat):({ ((W.alloc A).alloc B) with drawn:=q } : World).heap[W.heap.size]? = some A∧({ ((W.alloc A).alloc B) with drawn:=q } : World).heap[W.heap.size+1]? = some B:=by
 constructor
 ·show ((W.heap.push A).push B)[W.heap.size]? = some A;simp[Array.getElem?_push]
 ·show ((W.heap.push A).push B)[W.heap.size+1]? = some B;rw[Array.getElem?_push,if_pos (by simp)]
def YD (w:World) (x y:Value) (t:TypeId):(w.alloc (.cells #[x,y] t)).cell? ⟨w.heap.size,0,none⟩=some x∧(w.alloc (.cells #[x,y] t)).cell? ⟨w.heap.size,0+1,none⟩=some y:=by
 have h:(w.alloc (.cells #[x,y] t)).heap[w.heap.size]? = some (.cells #[x,y] t):=by
  show (w.heap.push _)[w.heap.size]? = _;simp
 exact⟨aW h (j:=0) (by simp),aW h (j:=0+1) (by simp)⟩
def abj (W:World) (A B:Obj):({ ((W.alloc A).alloc B) with drawn:=((W.alloc A).alloc B).drawn+1 } : World)=grow (W.drewN 1) #[A,B]:=by
 rw[alloc_eq_grow,alloc_eq_grow,grow_grow];rfl
def QW {P:Program} {id:Nat} {Q:Exit->Act->World->Prop} {a:Act} {w b:World} {l:List Oper} (n:Nat) (d:b = { w with drawn:=w.drawn+1 }) (e:P.follows .mixedOrders=true) (f:Region.lexTailB .any l.toArray n=true)
  (h:wpStill P l.toArray b (fun g=>wpList P l.toArray Q (l.drop n) g b) (l.take n) a):(Code.region id l.toArray true).wp P Q a w:=by
 subst d;exact wp_region_still_tail n e f h
set_option maxRecDepth 100000 in
def Nx (f1 t1 f2 t2:Int) (a b c d a' b' c' d':Value) (W:World) (h1:∀v∈[a,b,c,d],v.oneCell'=true) (h2:∀v∈[a',b',c',d'],v.oneCell'=true) :
  Calls prog 25 #[.agg #[.int .i64 f1,.int .i64 t1,a,b,c,d],.agg #[.int .i64 f2,.int .i64 t2,a',b',c',d']] W fun e w'=>e=.returned (.int .i64 (if Lib.compareInt f1 f2≠0 then Lib.compareInt f1 f2 else Lib.compareInt t1 t2))∧∃q os',w'=grow (W.drewN q) os':=by
 have hcon:=fun x y W'=>N6 x y W';have hor:=fun b off cap x y r hr W' h0 h1=>aeD b off cap x y r hr W' h0 h1;generalize hr:(if Lib.compareInt f1 f2≠0 then Lib.compareInt f1 f2 else Lib.compareInt t1 t2)=r;obtain⟨w1,hw1⟩:∃w1:World,w1 = { ((W.alloc (Obj.cells #[.int .i64 f1,.int .i64 t1,a,b,c,d] 50)).alloc (Obj.cells #[.int .i64 f2,.int .i64 t2,a',b',c',d'] 50)) with drawn:=((W.alloc (Obj.cells #[.int .i64 f1,.int .i64 t1,a,b,c,d] 50)).alloc (Obj.cells #[.int .i64 f2,.int .i64 t2,a',b',c',d'] 50)).drawn+1 }:=⟨_,rfl⟩;have hg:∃q os,w1=grow (W.drewN q) os:=⟨_,_,hw1.trans (abj _ _ _)⟩;have hA:w1.heap[W.heap.size]? = some (Obj.cells #[.int .i64 f1,.int .i64 t1,a,b,c,d] 50):=by rw[hw1];exact (HM _ _ _ _).1
 have hB:w1.heap[W.heap.size+1]? = some (Obj.cells #[.int .i64 f2,.int .i64 t2,a',b',c',d'] 50):=by rw[hw1];exact (HM _ _ _ _).2
 have c1:w1.cell? ⟨W.heap.size,0,none⟩=some (.int .i64 f1):=aW hA (j:=0) (by simp);have c2:w1.cell? ⟨W.heap.size,1,none⟩=some (.int .i64 t1):=aW hA (j:=1) (by simp);have c3:w1.cell? ⟨W.heap.size+1,0,none⟩=some (.int .i64 f2):=aW hB (j:=0) (by simp);have c4:w1.cell? ⟨W.heap.size+1,1,none⟩=some (.int .i64 t2):=aW hB (j:=1) (by simp);clear hA hB
 go_enter func25,ntmps25
 go_wp2
 refine QW 10 hw1 (by kernel_rfl) (by kernel_rfl) ?_;clear hw1;simp only[List.take_succ_cons,List.take_zero,akt,ajV]
 iterate 4 still_step
 still_call (hcon _ _ _)
 iterate 4 still_step
 still_call (hcon _ _ _)
 apply wpStill_nil;generalize Lib.compareInt f1 f2=r1 at *;generalize Lib.compareInt t1 t2=r2 at *
 go_wp2_with (go_at_call 49;refine (hor _ _ _ _ _ _ hr.symm _ (YD _ _ _ _).1 (YD _ _ _ _).2).mono ?_;rintro e w' ⟨rfl,rfl⟩)
 go_ret
 obtain⟨q,os,hq⟩:=hg;exact⟨rfl,q,_,by rw[hq,alloc_eq_grow,grow_grow]⟩
def aaK {α:Type} {E:iF α} (m:E.size=6) {f g:α->Int} (q:∀x,(E.cells x)[0]? = some (.int .i64 (f x))) (r:∀x,(E.cells x)[1]? = some (.int .i64 (g x))) {w:World} {M:Nat->Prop} {x:α} {k:List Value} (h:IsV E w M x k) :
  ∃a b c d,k=[.int .i64 (f x),.int .i64 (g x),a,b,c,d]∧∀v∈[a,b,c,d],v.oneCell'=true:=by
 obtain⟨n,l⟩:=h;rw[m]at n
 match k,n with
 | [a0,o,a2,a3,a4,a5],_ =>
  have s:a0=.int .i64 (f x):=by
   have:=(l 0 _ (q x)).2;simp at this;cases this;rfl
  have t:o=.int .i64 (g x):=by
   have:=(l 1 _ (r x)).2;simp at this;cases this;rfl
  have i:=E.len x;rw[m]at i;have e:∀j,j<6->([a0,o,a2,a3,a4,a5].getD j undef).oneCell'=true:=fun j z=>by
   obtain⟨u,y⟩:=l j _ (aiE (by omega));exact y.qO u
  subst s t;refine⟨a2,a3,a4,a5,rfl,fun v p =>?_⟩;simp only[aiy,ajy,or_false]at p;rcases p with rfl|rfl|rfl|rfl
  ·exact e 2 (by decide)
  ·exact e 3 (by decide)
  ·exact e 4 (by decide)
  ·exact e 5 (by decide)
def WI {α:Type} {E:iF α} (e:E.size=6) {f g:α->Int} (h:∀x,(E.cells x)[0]? = some (.int .i64 (f x))) (i:∀x,(E.cells x)[1]? = some (.int .i64 (g x))):afd prog 25 true E (kL f g):=by
 intro w M x y r s t j k;obtain⟨a,b,c,d,rfl,p⟩:=aaK e h i j;obtain⟨l,m,n,o,rfl,q⟩:=aaK e h i k;exact Nx _ _ _ _ a b c d l m n o w p q
def XK {P:Program} {ρ:Go.Shelf.Ren} (L:SlLaysF0.n6 P ρ) {k g:Nat} (l:∀w,(isAgg (ρ.t 24)).run P w=.ok true w) (n:∀w,(Go.sizeOf (ρ.t 24)).run P w=.ok k w) (o:∀a w,(callFunc g a).run P w=.ok (.enter g a) w):ac6 P (ρ.f 6) g true k :=
 fun β p enc q r s t e f h d w b u c i=>AnyQ.slices_SortFunc L k l n enc r s q t g #[] e f h d w o (fun m v z j x y=>by simpa [YE] using b m v z j x y) u c i
def MA {α:Type} {E:iF α} (b:E.size=6) {f g:α->Int} (c:∀x,(E.cells x)[0]? = some (.int .i64 (f x))) (d:∀x,(E.cells x)[1]? = some (.int .i64 (g x))) (e:Nat) :
  bZ prog 24 (mkW e E (dy (Yc 25)) (fun l (_:Unit)=>DR (kL f g) l) (fun _:Unit =>.clean (.tup []))) :=
 aaQ (F:=DR (kL f g)) func24 ⟨rfl,rfl⟩ (fun _=>rfl) (fun p a w=>AnyF.slices_SortFunc_none Tryz.aaR p a _ w) (uC f g) (WI b c d)
  (by rw[b];exact XK Tryz.aaR isAgg50 sizeOf50 (enters_of func25 (by kernel_rfl) rfl))
open Go.RowKit P
def mz:Nat->Code->Code
 | 0,.seq a _=>a
 | k+1,.seq a b =>.seq a (mz k b)
 | _,c=>c
def CO:Nat->Code->Code
 | 0,.seq _ b=>b
 | k+1,.seq _ b=>CO k b
 | _,_ =>.skip
def spine:Nat->Code->Bool
 | 0,.seq _ _=>true
 | k+1,.seq _ b=>spine k b
 | _,_=>false
def YM (a:Func):Code:=match a.body with|some c=>c|none =>.skip
def LW (a b:Code):mz 0 (.seq a b)=a:=rfl
def LV (k:Nat) (a b:Code):mz (k+1) (.seq a b)=.seq a (mz k b):=rfl
section
variable {P:Program} {T:Nat->Option Ty} {N:Nat} {M:Nat->Prop} {L:kx} {w0:World} {Γ:Env}
def Dy (l:ji P T) (m:bI P Γ) (o:P.follows .mixedOrders=true) {F:Nat} {Q:Exit->Act->World->Prop} : ∀(k:Nat) (c:Code) (s:St) (x:Ex) (i:St) (a:Act) (w:World),spine k c=true->gD T Γ N F (mz k c) s=some (x,i)->codeOk (mz k c)=true->Holds N M L w0 s a w ->
  (x=.normal->∀e f,Holds N M L w0 i e f->(CO k c).wp P Q e f)->(x ≠ .normal->∀e f,Holds N M L w0 i e f->Q (FK x) e f)->c.wp P Q a w
 | 0,.seq b c,s,x,i,a,w,_,j,g,hH,h1,h2=>by
  refine wp_seq (jM l m o b s x i _ a w j g hH fun e f d =>?_);cases x with
  | normal=>exact h1 rfl e f d
  | exit n=>exact h2 (by intro h;cases h) e f d
  | ret=>exact h2 (by intro h;cases h) e f d
 | k+1,.seq b c,s,x,i,a,w,hs,j,g,hH,h1,h2=>by
  simp only[mz,codeOk,ai2]at g;simp only[mz,gD,ae1]at j;apply wp_seq;split at j
  ·rename_i q p;exact jM l m o b s .normal q _ a w p g.1 hH fun e f d=>Dy l m o k c q x i e f hs j g.2 d h1 h2
  ·rename_i r hne;refine jM l m o b s x i _ a w j g.1 hH fun e f d =>?_;cases x with
   | normal=>exact absurd j (fun h=>hne i h)
   | exit n=>exact h2 (by intro h;cases h) e f d
   | ret=>exact h2 (by intro h;cases h) e f d
end
def zH (T:Nat->Option Ty) (rs:List ResultVar) (r:RK×Option Row) (J:(Nat->D)->(Nat->Option Row)->Nat->Prop):Kt:=fun x t h e =>
 match x with
 | .normal=>J t h e
 | .ret=>gi .clean T none rs ⟨t,EH h,e⟩=some r
 | .exit _=>False
section
variable {T:Nat->Option Ty} {Γ:Env} {n F k:Nat} {rs:List ResultVar} {r:RK×Option Row} {J:(Nat->D)->(Nat->Option Row)->Nat->Prop} {t:Nat->D} {h:Nat->Option Row} {e:Nat}
def H8:zH T rs r J .normal t h e=J t h e:=alM
def FO:zH T rs r J .ret t h e=(gi .clean T none rs ⟨t,EH h,e⟩=some r):=alM
def T9 (T:Nat->Option Ty) (Γ:Env) (F k:Nat) (b:Func) (a:List D) (K:Kt):Prop:=∃c,b.body=some c∧∃x s,gD T Γ b.ntmps F (mz k c) (cg none a)=some (x,s)∧K x s.t s.h s.e
def X4 {b:Func} {c:Code} {a:List D} (d:b.body=some c) (e:b.ntmps=n) (f:b.results=rs.toArray) (g:dD T Γ n F [.code (mz k c)] (zH T rs r J) .normal (AE a) Ko 0):T9 T Γ F k b a (zH T b.results.toList r J):=by
 obtain⟨x,s,h,i⟩:=CU _ _ _ _ _ (show Nf T Γ n F (mz k c) (AE a) Ko 0 (zH T rs r J) from g);refine⟨c,d,x,s,?_,?_⟩
 ·rw[e];exact h
 ·rw[f];exact i
end
section
variable {P:Program} {T:Nat->Option Ty} {Γ:Env}
def Ry {n:Nat} {a:List D} {w:World} {M:Nat->Prop} {f:Array Value} (o:∀b,M b->b<w.heap.size) (c:Ay w M a f) (z:a.length<=n) (h:n<=PK):Holds n M none w (cg none a) { tmps:=f++Array.replicate (n-f.size) undef,defers:=[] } w:=by
 have p:Inv n M none w (fun _=>none) (fun x v=>x<n∧v<0) (cg none a).t (cg none a).h { tmps:=f++Array.replicate (n-f.size) undef,defers:=[] } w:={
  tab:=fun b d=>(c.tab b d).less fun b d=>by
   rcases d with d|⟨x,r,g,e,_⟩
   ·exact d
   ·cases e
  below:=ee.refl _ _
  mlt:=o
  lent:=fun b d=>absurd d qw
  pin:=fun A q=>by cases q
  defers:=rfl
  tsz:=by have:=c.1;simp;omega
  slots:=fun i=>by
   simp only[cg];rcases xR (n:=n) (i:=i) c.1 with he|he
   ·rw[he]
    by_cases j:i<a.length
    ·have t:=c.2 i _ (aiE j);have l:a.getD i .und=a[i]:=by simp[List.getD,j]
     rw[l];exact bR (t.less fun b d=>by
      rcases d with d|⟨x,r,g,e,_⟩
      ·exact d
      ·cases e)
    ·have l:a.getD i .und=.und:=by simp[List.getD,aj7 (akf j)]
     rw[l];trivial
   ·rw[he];trivial
  rows:=fun x r e=>by cases e
  inj:=fun x y r s g B e=>by cases e
  big:=h
  pha:=fun y r g m=>by cases m
  ali:=fun y r g m=>by cases m }
 exact⟨_,⟨(by rw[Ey (fun k r u=>by cases u)];exact p.weaken fun x v e=>absurd e.2 (Nat.not_lt_zero _)),fun x r C s E F e=>by cases e⟩⟩
def JD (q:ji P T) {e:Func} {M:Nat->Prop} {w d:World} {s:St} {a':Act} {n:RK} (r:Holds e.ntmps M none w s a' d) (c:gi .clean T none e.results.toList ⟨s.t,EH s.h,s.e⟩=some (n,none)) :
  a'.defers=[]∧∃v,(results e a'.tmps).run P d=.ok v d∧(∃p,Ending.returned v=.returned p∧Below w.heap.size w d∧wI w d M (fun _=>False) p n):=by
 obtain⟨f,k⟩:=r;obtain⟨j,g⟩:∃j:St,j=⟨s.t,EH s.h,s.e⟩:=⟨_,rfl⟩;have a:Inv e.ntmps M none w f (VE e.ntmps s.e [] s.h) j.t j.h a' d:=by rw[g];exact k.inv
 rw[<- g]at c;have h:Below w.heap.size w d:=a.below.below (fun b t=>absurd t qw);refine⟨a.defers,?_⟩;simp only[gi,rR,mC]at c;split at c<;>try (cases c;done)
 rename_i x u o i y;split at c<;>try (cases c;done)
 simp only[aiA,Prod.mk.injEq]at c;obtain⟨rfl,_⟩:=c;obtain⟨v,l,m⟩:=tu (P:=P) q a i (a.aad u);exact⟨v,l,v,rfl,h,m⟩
def Nr (P:Program) (b:Func) (c:Code) (f:RK) (J:(Nat->D)->(Nat->Option Row)->Nat->Prop):Prop:=∀(w0:World) (M:Nat->Prop) (s:St) (a:Act) (w:World),J s.t s.h s.e->Holds b.ntmps M none w0 s a w ->
 c.wp P (bodyPost P b fun e d=>∃v,e=.returned v∧Below w0.heap.size w0 d∧wI w0 d M (fun _=>False) v f) a w
def bZ.front (m:ji P T) (u:bI P Γ) (v:P.follows .mixedOrders=true) {α β:Type} {A:jH α} {F:α->Option β} {R:β->RK} {f:FuncId} {b:Func} {c:Code} {k:Nat} {J:β->(Nat->D)->(Nat->Option Row)->Nat->Prop} (o:P.funcs[f]? = some b) (p:b.body=some c) (d:(codeOk (mz k c)&&spine k c)=true)
  (y:(b.name == "runtime.NumGoroutine")=false∧b.body.isNone=false) (z:∀a,(A.ds a).length<=b.ntmps) (i:b.ntmps<=1000000) (h:∀a r,F a=some r->T9 T Γ FU k b (A.ds a) (zH T b.results.toList (R r,none) (J r))) (B:∀r,Nr P b (CO k c) (R r) (J r)):bZ P f (dN A F R) where
 calls lent K rk out C:=by
  obtain⟨rfl,rfl,a,r,rfl,E,rfl⟩:=sb C;rw[ai2]at d;intro w M L G e;obtain⟨N,g,x,s,H,j⟩:=h a r E;rw[p]at g;cases g;apply calls_of_wp o p;refine Dy m u v k c (cg none (A.ds a)) x s _ _ d.2 H d.1 (Ry G e (z a) (by rw[cK];exact i)) ?_ ?_
  ·rintro rfl q t l;exact B r w M s q t j l
  ·intro I q t l;cases x with
   | normal=>exact absurd rfl I
   | exit n=>exact j.elim
   | ret=>exact JD m l j
 callable:=⟨b,o,y⟩
end
end Go.Proofs.YtokgehacmjmfkaaGreat.Am
namespace Go.Proofs.YtokgehacmjmfkaaGreat.P
open Go.RowKit
open IntKind (i64)
structure aF where
 ak:Int
 aa:(List Int)
structure al where
 bK:aF
 bL:aF
structure bV where
 cM:Int
 jR:Int
 eo:al
structure dE where
 aC:Int
 aP:(List bV)
structure eS where
 nP:Int
 gA:al
structure aG where
 bl:al
 bU:(List eS)
structure ic where
 cm:Int
 aT:Int
structure jQ where
 bG:Int
 aY:Int
 aT:Int
structure D1 where
 bG:Int
 aY:Int
 aT:Int
 LS:ByteArray
structure gN where
 aq:(List jQ)
 aO:(List D1)
 aL:(List (List al))
structure ck where
 ay:gN
 a8:(List ic)
 aC:(List Int)
structure ct where
 av:(List Int)
 aD:(List ck)
def xK (b:(List Int)):(Int)->Option ((Int)⊕((Int)))
 | a =>
  if decide (a>0) then
   (P.idx b (i64.wrap (a-1))).bind fun c =>
   if (c==0) then
    some (.inl (i64.wrap (a-1)))
   else
    some (.inr a)
  else
   some (.inr a)
def jc (b:(List Int)):Option ((List Int)) :=
 (aS (xK b) (b.length:Int)).bind fun a =>
 (Eg b 0 a).bind fun c =>
 (mK 8 [] c).bind fun _ =>
 some c
def jb (b:Int) (c:(List Int)):Option (aF) :=
 (jc c).bind fun a =>
 if ((a.length:Int)==0) then
  some (aF.mk 0 ([]))
 else
  some (aF.mk b a)
def yE:(Int×(List Int))->Option ((Int×(List Int))⊕(((List Int))))
 | (a,b) =>
  if (a != 0) then
   (Gw .i64 a 1048576).bind fun c =>
   if decide (c<0) then
    (mK 8 b [i64.wrap (0-c)]).bind fun d =>
    (BR .i64 a 1048576).bind fun e =>
    some (.inl (e,d))
   else
    (mK 8 b [c]).bind fun f =>
    (BR .i64 a 1048576).bind fun g =>
    some (.inl (g,f))
  else
   some (.inr b)
def xH (c:Int):Option (aF) :=
 if (c==0) then
  some (aF.mk 0 ([]))
 else
  (if decide (c<0) then
   some (-1)
  else
   some 1).bind fun a =>
  (aS (yE) (c,[])).bind fun b =>
  (jb a b).bind fun d =>
  some d
def qQ (b:aF):(Int)->Option ((Int)⊕((Unit)⊕(Bool)))
 | a =>
  if decide (a<(b.aa.length:Int)) then
   (P.idx b.aa a).bind fun c =>
   if decide (c<0) then
    some (.inr (.inr false))
   else
    if decide (c>=1048576) then
     some (.inr (.inr false))
    else
     some (.inl (i64.wrap (a+1)))
  else
   some (.inr (.inl ()))
def eZ (a:aF):Option (Bool) :=
 (aS (qQ a) 0).bind fun q=>match q with
 | (.inl _) =>
  (if decide (a.ak<(-1)) then
   some true
  else
   if decide (a.ak>1) then
    some true
   else
    some (!(((a.aa.length:Int)==0)==(a.ak==0)))).bind fun b =>
  if b then
   some false
  else
   if ((a.aa.length:Int)==0) then
    some true
   else
    (P.idx a.aa (i64.wrap ((a.aa.length:Int)-1))).bind fun c =>
    some (c != 0)
 | (.inr d) =>
  some d
def vF (a:aF):Option (aF) :=
 (eZ a).bind fun b =>
 if (!b) then
  some (aF.mk 0 ([]))
 else
  (jb (i64.wrap (0-a.ak)) a.aa).bind fun c =>
  some c
def jD (a:(List Int)) (b:Int):Option (Int) :=
 if decide (b<(a.length:Int)) then
  (P.idx a b).bind fun c =>
  some c
 else
  some 0
def qU (l:(List Int)) (k:(List Int)) (b:Int):(Int×Int×(List Int))->Option ((Int×Int×(List Int))⊕(((List Int))))
 | (c,a,d) =>
  (if decide (a<(k.length:Int)) then
   some true
  else
   some (decide (c>0))).bind fun e =>
  if e then
   (P.idx d (i64.wrap (b+a))).bind fun f =>
   (P.idx l b).bind fun g =>
   (jD k a).bind fun h =>
   (Gw .i64 (i64.wrap ((i64.wrap (f+(i64.wrap (g*h))))+c)) 1048576).bind fun i =>
   (BR .i64 (i64.wrap ((i64.wrap (f+(i64.wrap (g*h))))+c)) 1048576).bind fun j =>
   some (.inl (j,i64.wrap (a+1),(d.set (i64.wrap (b+a)).toNat i)))
  else
   some (.inr d)
def qT (d:(List Int)) (e:(List Int)):(Int×(List Int))->Option ((Int×(List Int))⊕(((List Int))))
 | (a,b) =>
  if decide (a<(d.length:Int)) then
   (aS (qU d e a) (0,0,b)).bind fun c =>
   some (.inl (i64.wrap (a+1),c))
  else
   some (.inr b)
def ns (b:(List Int)) (c:(List Int)):Option ((List Int)) :=
 (Gt 8 (i64.wrap ((b.length:Int)+(c.length:Int))) (i64.wrap ((b.length:Int)+(c.length:Int))) 0).bind fun e =>
 (aS (qT b c) (0,e)).bind fun a =>
 (jc a).bind fun d =>
 some d
def tp (d:(List Int)) (e:(List Int)):(Int)->Option ((Int)⊕((Unit)⊕(Bool)))
 | a =>
  if decide (a>=0) then
   (jD d a).bind fun b =>
   (jD e a).bind fun c =>
   if (b != c) then
    some (.inr (.inr (decide (b<c))))
   else
    some (.inl (i64.wrap (a-1)))
  else
   some (.inr (.inl ()))
def so (a:(List Int)) (b:(List Int)):Option (Bool) :=
 (aS (tp a b) (i64.wrap ((if (b.length:Int)>(a.length:Int) then (b.length:Int) else (a.length:Int))-1))).bind fun q=>match q with
 | (.inl _) =>
  some false
 | (.inr c) =>
  some c
def qS (h:(List Int)) (i:(List Int)):(Int×Int×(List Int))->Option ((Int×Int×(List Int))⊕(((List Int))))
 | (b,a,c) =>
  if decide (a<(h.length:Int)) then
   (P.idx h a).bind fun d =>
   (jD i a).bind fun e =>
   if decide ((i64.wrap ((i64.wrap (d-e))-b))<0) then
    (mK 8 c [i64.wrap ((i64.wrap ((i64.wrap (d-e))-b))+1048576)]).bind fun f =>
    some (.inl (1,i64.wrap (a+1),f))
   else
    (mK 8 c [i64.wrap ((i64.wrap (d-e))-b)]).bind fun g =>
    some (.inl (0,i64.wrap (a+1),g))
  else
   some (.inr c)
def oX (c:(List Int)) (d:(List Int)):Option ((List Int)) :=
 (aS (qS c d) (0,0,[])).bind fun a =>
 (jc a).bind fun b =>
 some b
def pU (g:(List Int)) (d:(List Int)):(Int×Int)->Option ((Int×Int)⊕((Int)))
 | (b,a) =>
  if decide ((i64.wrap (a-b))>1) then
   (BR .i64 (i64.wrap (b+a)) 2).bind fun c =>
   (ns g ([c])).bind fun e =>
   (so d e).bind fun f =>
   if f then
    some (.inl (b,c))
   else
    some (.inl (c,a))
  else
   some (.inr b)
def tq (l:(List Int)) (k:(List Int)):((List Int)×Int×(List Int))->Option (((List Int)×Int×(List Int))⊕(((List Int)×(List Int))))
 | (d,a,c) =>
  if decide (a>=0) then
   (P.idx l a).bind fun f =>
   (mK 8 [f] d).bind fun g =>
   (jc g).bind fun e =>
   (aS (pU k e) (0,1048576)).bind fun b =>
   (P.idx c a).bind fun m =>
   (jc ([b])).bind fun h =>
   (ns k h).bind fun i =>
   (oX e i).bind fun j =>
   some (.inl (j,i64.wrap (a-1),(c.set (a).toNat b)))
  else
   some (.inr (d,c))
def sr (c:(List Int)) (e:(List Int)):Option ((List Int)×(List Int)) :=
 (Gt 8 (c.length:Int) (c.length:Int) 0).bind fun f =>
 (aS (tq c e) ([],i64.wrap ((c.length:Int)-1),f)).bind fun q=>match q with
 | (a,b) =>
  (jc b).bind fun d =>
  some (d,a)
def sn:((List Int)×(List Int))->Option (((List Int)×(List Int))⊕(((List Int))))
 | (b,a) =>
  if decide ((a.length:Int)>0) then
   (sr b a).bind fun c =>
   some (.inl (a,c.2))
  else
   some (.inr b)
def tn (d:aF) (e:aF):Option (aF×Int) :=
 (eZ d).bind fun f =>
 (if (!f) then
  some true
 else
  (eZ e).bind fun c =>
  some (!c)).bind fun a =>
 if a then
  some ((aF.mk 0 ([])),1)
 else
  (aS (sn) (d.aa,e.aa)).bind fun b =>
  (jb 1 b).bind fun g =>
  some (g,0)
def DN (j:(List Int)) (k:(List Int)):(Int×Int×(List Int))->Option ((Int×Int×(List Int))⊕(((List Int))))
 | (b,a,d) =>
  (if decide (a<(j.length:Int)) then
   some true
  else
   if decide (a<(k.length:Int)) then
    some true
   else
    some (decide (b>0))).bind fun c =>
  if c then
   (jD j a).bind fun e =>
   (jD k a).bind fun f =>
   (Gw .i64 (i64.wrap ((i64.wrap (e+f))+b)) 1048576).bind fun g =>
   (mK 8 d [g]).bind fun h =>
   (BR .i64 (i64.wrap ((i64.wrap (e+f))+b)) 1048576).bind fun i =>
   some (.inl (i,i64.wrap (a+1),h))
  else
   some (.inr d)
def xJ (c:(List Int)) (d:(List Int)):Option ((List Int)) :=
 (aS (DN c d) (0,0,[])).bind fun a =>
 (jc a).bind fun b =>
 some b
def qP (d:aF) (a:aF):Option (aF×aF×Int) :=
 (eZ d).bind fun k =>
 (if (!k) then
  some true
 else
  (eZ a).bind fun f =>
  some (!f)).bind fun b =>
 if b then
  some ((aF.mk 0 ([])),(aF.mk 0 ([])),1)
 else
  if (a.ak==0) then
   some ((aF.mk 0 ([])),(aF.mk 0 ([])),15)
  else
   (sr d.aa a.aa).bind fun e =>
   (if decide ((i64.wrap (d.ak*a.ak))>=0) then
    some true
   else
    some ((e.2.length:Int)==0)).bind fun c =>
   if c then
    (jb (i64.wrap (d.ak*a.ak)) e.1).bind fun l =>
    (jb d.ak e.2).bind fun m =>
    some (l,m,0)
   else
    (xJ e.1 ([1])).bind fun g =>
    (jb (-1) g).bind fun h =>
    (oX a.aa e.2).bind fun i =>
    (jb a.ak i).bind fun j =>
    some (h,j,0)
def yF (i:aF) (f:aF):Option (al×Int) :=
 (eZ i).bind fun l =>
 (if (!l) then
  some true
 else
  (eZ f).bind fun j =>
  some (!j)).bind fun e =>
 if e then
  some ((al.mk (aF.mk 0 ([])) (aF.mk 0 ([]))),1)
 else
  if (f.ak==0) then
   some ((al.mk (aF.mk 0 ([])) (aF.mk 0 ([]))),15)
  else
   (if decide (f.ak<0) then
    (vF i).bind fun g =>
    (vF f).bind fun h =>
    some (g.ak,g.aa,h.ak,h.aa)
   else
    some (i.ak,i.aa,f.ak,f.aa)).bind fun q=>match q with
   | (a,b,c,d) =>
    (tn (aF.mk a b) (aF.mk c d)).bind fun k =>
    (qP (aF.mk a b) k.1).bind fun m =>
    (qP (aF.mk c d) k.1).bind fun n =>
    some ((al.mk m.1 n.1),0)
def An (b:Int) (c:Int):Option (al×Int) :=
 (xH b).bind fun d =>
 (xH c).bind fun e =>
 (yF d e).bind fun a =>
 some (a.1,a.2)
def nU (a:Int) (b:Int) (c:Int) (d:Int):Option (bV) :=
 (An c d).bind fun e =>
 some (bV.mk a b e.1)
def tr (a:Int):Option (al) :=
 (An a 1).bind fun b =>
 some b.1
def DA (d:(List Int)):(Int×(List al))->Option ((Int×(List al))⊕(((List al))))
 | (a,b) =>
  if decide (a<(d.length:Int)) then
   (P.idx d a).bind fun e =>
   (tr e).bind fun f =>
   (mK 64 b [f]).bind fun c =>
   some (.inl (i64.wrap (a+1),c))
  else
   some (.inr b)
def mh (b:(List Int)):Option ((List al)) :=
 (aS (DA b) (0,[])).bind fun a =>
 some a
def eu (a:Int) (b:Int) (c:Int):Option (Bool) :=
 if decide (a>=b) then
  some (decide (a<=c))
 else
  some false
def qB (b:aF):(Int)->Option ((Int)⊕((Unit)⊕(Bool)))
 | a =>
  if decide (a<(b.aa.length:Int)) then
   (P.idx b.aa a).bind fun c =>
   if decide (c<0) then
    some (.inr (.inr false))
   else
    if decide (c>1048575) then
     some (.inr (.inr false))
    else
     some (.inl (i64.wrap (a+1)))
  else
   some (.inr (.inl ()))
def dr (a:aF):Option (Bool) :=
 (aS (qB a) 0).bind fun q=>match q with
 | (.inl _) =>
  if ((a.aa.length:Int)==0) then
   some (a.ak==0)
  else
   if (a.ak==1) then
    (P.idx a.aa (i64.wrap ((a.aa.length:Int)-1))).bind fun b =>
    some (b != 0)
   else
    if (a.ak==(-1)) then
     (P.idx a.aa (i64.wrap ((a.aa.length:Int)-1))).bind fun c =>
     some (c != 0)
    else
     some false
 | (.inr d) =>
  some d
def eY (a:Bool) (b:aF):Option (aF×Int) :=
 if (!a) then
  some ((aF.mk 0 ([])),1)
 else
  some (b,0)
def dA (a:(List Int)):Option (List Int):=mK 8 [] a
def qX (a:Int):Option (Bool) :=
 some (a != a)
def gg (a:Int) (p1:Int):Option (Int) :=
 (qX a).bind fun c =>
 (qX p1).bind fun b =>
 if c then
  if b then
   some 0
  else
   some (-1)
 else
  if b then
   some 1
  else
   if decide (a<p1) then
    some (-1)
   else
    if decide (a>p1) then
     some 1
    else
     some 0
def nJ (e:(List Int)) (f:(List Int)):(Int)->Option ((Int)⊕((Unit)⊕(Int)))
 | a =>
  if decide (a>=0) then
   (P.idx e a).bind fun b =>
   (P.idx f a).bind fun c =>
   if (b != c) then
    (gg b c).bind fun d =>
    some (.inr (.inr d))
   else
    some (.inl (i64.wrap (a-1)))
  else
   some (.inr (.inl ()))
def gO (a:(List Int)) (b:(List Int)):Option (Int) :=
 if ((a.length:Int) != (b.length:Int)) then
  (gg (a.length:Int) (b.length:Int)).bind fun c =>
  some c
 else
  (aS (nJ a b) (i64.wrap ((a.length:Int)-1))).bind fun q=>match q with
  | (.inl _) =>
   some 0
  | (.inr d) =>
   some d
def mZ (b:(List Int)):(Int)->Option ((Int)⊕((Int)))
 | a =>
  if decide (a>0) then
   (P.idx b (i64.wrap (a-1))).bind fun c =>
   if (c==0) then
    some (.inl (i64.wrap (a-1)))
   else
    some (.inr a)
  else
   some (.inr a)
def eK (b:(List Int)):Option ((List Int)) :=
 (aS (mZ b) (b.length:Int)).bind fun a =>
 (Eg b 0 a).bind fun c =>
 some c
def qD (i:(List Int)) (h:Int):(Int×Int×(List Int))->Option ((Int×Int×(List Int))⊕((Int×(List Int))))
 | (c,a,b) =>
  if decide (a>=0) then
   (Iu .i64 c 20).bind fun d =>
   (P.idx i a).bind fun e =>
   (BR .i64 (ma .or .i64 d e) h).bind fun f =>
   (P.idx b a).bind fun j =>
   (Gw .i64 (ma .or .i64 d e) h).bind fun g =>
   some (.inl (g,i64.wrap (a-1),(b.set (a).toNat f)))
  else
   some (.inr (c,b))
def oJ (c:(List Int)) (e:Int):Option ((List Int)×Int) :=
 (Gt 8 (c.length:Int) (c.length:Int) 0).bind fun f =>
 (aS (qD c e) (0,i64.wrap ((c.length:Int)-1),f)).bind fun q=>match q with
 | (a,b) =>
  (eK b).bind fun d =>
  some (d,a)
def u5 (i:(List Int)) (b:Int) (e:Int):(Int×Int×(List Int))->Option ((Int×Int×(List Int))⊕((Int×(List Int))))
 | (c,a,d) =>
  if decide (a<(i.length:Int)) then
   (P.idx i a).bind fun f =>
   (P.idx d (i64.wrap (b+a))).bind fun g =>
   (Aq .i64 (i64.wrap ((i64.wrap (g+(i64.wrap (e*f))))+c)) 20).bind fun h =>
   some (.inl (h,i64.wrap (a+1),(d.set (i64.wrap (b+a)).toNat (ma .and .i64 (i64.wrap ((i64.wrap (g+(i64.wrap (e*f))))+c)) 1048575))))
  else
   some (.inr (c,d))
def u4 (h:(List Int)) (e:(List Int)):(Int×(List Int))->Option ((Int×(List Int))⊕(((List Int))))
 | (a,c) =>
  if decide (a<(h.length:Int)) then
   (P.idx h a).bind fun f =>
   (aS (u5 e a f) (0,0,c)).bind fun q=>match q with
   | (d,b) =>
    (P.idx b (i64.wrap (a+(e.length:Int)))).bind fun g =>
    some (.inl (i64.wrap (a+1),(b.set (i64.wrap (a+(e.length:Int))).toNat (i64.wrap (g+d)))))
  else
   some (.inr c)
def qC (b:(List Int)) (c:(List Int)):Option ((List Int)) :=
 (Gt 8 (i64.wrap ((b.length:Int)+(c.length:Int))) (i64.wrap ((b.length:Int)+(c.length:Int))) 0).bind fun e =>
 (aS (u4 b c) (0,e)).bind fun a =>
 (eK a).bind fun d =>
 some d
def mv (i:(List Int)) (h:(List Int)) (j:Int):(Int×Int×(List Int))->Option ((Int×Int×(List Int))⊕((Int×(List Int))))
 | (c,a,d) =>
  if decide (a<((i).length:Int)) then
   (P.idx d a).bind fun e =>
   (if decide (a<(h.length:Int)) then
    (P.idx h a).bind fun f =>
    some (i64.wrap ((i64.wrap (e-c))-(i64.wrap (j*f))))
   else
    some (i64.wrap (e-c))).bind fun b =>
   (Aq .i64 b 20).bind fun g =>
   some (.inl (i64.wrap (0-g),i64.wrap (a+1),(d.set (a).toNat (ma .and .i64 b 1048575))))
  else
   some (.inr (c,d))
def mw (i:(List Int)) (e:(List Int)):(Int×Int×(List Int))->Option ((Int×Int×(List Int))⊕(((List Int))))
 | (c,a,d) =>
  if decide (a<((e).length:Int)) then
   (P.idx d a).bind fun f =>
   (if decide (a<(i.length:Int)) then
    (P.idx i a).bind fun g =>
    some (i64.wrap ((i64.wrap (c+f))+g))
   else
    some (i64.wrap (c+f))).bind fun b =>
   (Aq .i64 b 20).bind fun h =>
   some (.inl (h,i64.wrap (a+1),(d.set (a).toNat (ma .and .i64 b 1048575))))
  else
   some (.inr d)
def rF (e:(List Int)) (f:(List Int)) (d:Int):Option ((List Int)×(Int)) :=
 (aS (mv e f d) (0,0,e)).bind fun q=>match q with
 | (b,a) =>
  if (b==0) then
   some (a,d)
  else
   (aS (mw f a) (0,0,a)).bind fun c =>
   some (c,i64.wrap (d-1))
def gG (a:(List Int)) (b:(List Int)) (c:Int):Option ((List Int)×(Int)):=(rF a b c).bind fun r=>if r.1.length=a.length then some r else none
def Cq {a:(List Int)} {b:(List Int)} {c:Int} {r:(List Int)×(Int)} (h:gG a b c=some r):r.1.length=a.length:=by
 unfold gG at h;obtain⟨q,d,h⟩:=ah h;split at h
 ·cases h;assumption
 ·cases h
def uY (c:(List Int)):(Int)->Option ((Int)⊕((Int)))
 | a =>
  (P.idx c (i64.wrap ((c.length:Int)-1))).bind fun b =>
  if decide ((i64.wrap (b*a))<524288) then
   some (.inl (i64.wrap (a*2)))
  else
   some (.inr a)
def u3 (d:(List Int)) (e:Int) (f:(List Int)) (g:Int):(Int×Int)->Option ((Int×Int)⊕((Int)))
 | (a,b) =>
  (if decide (a>=1048576) then
   some true
  else
   if decide (b<1048576) then
    (P.idx d (i64.wrap (((d).length:Int)-2))).bind fun h =>
    (Iu .i64 b 20).bind fun i =>
    (P.idx f (i64.wrap ((i64.wrap (e+((d).length:Int)))-2))).bind fun j =>
    some (decide ((i64.wrap (a*h))>(ma .or .i64 i j)))
   else
    some false).bind fun c =>
  if c then
   some (.inl (i64.wrap (a-1),i64.wrap (b+g)))
  else
   some (.inr a)
def uZ (b:(List Int)):(Int×(List Int)×(List Int))->Option ((Int×(List Int)×(List Int))⊕(((List Int)×(List Int))))
 | (a,c,d) =>
  if decide (a>=0) then
   (P.idx c (i64.wrap (a+((b).length:Int)))).bind fun j =>
   (Iu .i64 j 20).bind fun g =>
   (P.idx c (i64.wrap ((i64.wrap (a+((b).length:Int)))-1))).bind fun h =>
   (P.idx b (i64.wrap (((b).length:Int)-1))).bind fun e =>
   (BR .i64 (ma .or .i64 g h) e).bind fun k =>
   (Gw .i64 (ma .or .i64 g h) e).bind fun l =>
   (aS (u3 b a c e) (k,l)).bind fun f =>
   (Eg c a (i64.wrap ((i64.wrap (a+((b).length:Int)))+1))).bind fun m =>
   (gG m b f).bind fun i =>
   (P.idx d a).bind fun n =>
   some (.inl (i64.wrap (a-1),(c.take (a).toNat++(i.1++c.drop (i64.wrap ((i64.wrap (a+((b).length:Int)))+1)).toNat)),(d.set (a).toNat i.2)))
  else
   some (.inr (c,d))
def uX (f:(List Int)) (g:(List Int)):Option ((List Int)×(List Int)) :=
 (gO f g).bind fun p =>
 if decide (p<0) then
  (dA f).bind fun r =>
  some ([],r)
 else
  if ((g.length:Int)==1) then
   (P.idx g 0).bind fun s =>
   (oJ f s).bind fun o =>
   (eK ([o.2])).bind fun t =>
   some (o.1,t)
  else
   (aS (uY g) 1).bind fun a =>
   (qC f ([a])).bind fun j =>
   (mK 8 j [0]).bind fun c =>
   (qC g ([a])).bind fun d =>
   (if (((c).length:Int)==(f.length:Int)) then
    (mK 8 c [0]).bind fun k =>
    some k
   else
    some c).bind fun b =>
   (Gt 8 (i64.wrap (((b).length:Int)-((d).length:Int))) (i64.wrap (((b).length:Int)-((d).length:Int))) 0).bind fun h =>
   (aS (uZ d) (i64.wrap (((h).length:Int)-1),b,h)).bind fun q=>match q with
   | (i,e) =>
    (eK i).bind fun l =>
    (oJ l a).bind fun m =>
    (eK e).bind fun n =>
    some (n,m.1)
def dz (b:Int) (c:(List Int)):Option (aF) :=
 (eK c).bind fun a =>
 if ((a.length:Int)==0) then
  some (aF.mk 0 ([]))
 else
  some (aF.mk b a)
def rD:((List Int)×(List Int))->Option (((List Int)×(List Int))⊕(((List Int))))
 | (b,a) =>
  if decide ((a.length:Int)>0) then
   (uX b a).bind fun c =>
   some (.inl (a,c.2))
  else
   some (.inr b)
def sR (g:aF) (h:aF):Option (aF×Int) :=
 (dr g).bind fun j =>
 (if (!j) then
  some true
 else
  (dr h).bind fun d =>
  some (!d)).bind fun a =>
 if a then
  (eY false (aF.mk 0 ([]))).bind fun i =>
  some (i.1,i.2)
 else
  (dA g.aa).bind fun k =>
  (aS (rD) (k,h.aa)).bind fun b =>
  (dA b).bind fun e =>
  (dz 1 e).bind fun f =>
  (eY true f).bind fun c =>
  some (c.1,c.2)
def uV (f:aF):(Int×Int)->Option ((Int×Int)⊕((Int)⊕(Int×Bool)))
 | (c,a) =>
  if decide (a<(f.aa.length:Int)) then
   (P.idx f.aa a).bind fun d =>
   (if (a==3) then
    some (decide (d>8))
   else
    some false).bind fun b =>
   if b then
    some (.inr (.inr (0,false)))
   else
    (Iu .u64 (IntKind.u64.wrap d) (i64.wrap (20*a))).bind fun e =>
    some (.inl (ma .or .u64 c e,i64.wrap (a+1)))
  else
   some (.inr (.inl c))
def yp (d:aF):Option (Int×Bool) :=
 (dr d).bind fun e =>
 (if (!e) then
  some true
 else
  some (decide ((d.aa.length:Int)>4))).bind fun b =>
 if b then
  some (0,false)
 else
  (aS (uV d) (0,0)).bind fun q=>match q with
  | (.inl a) =>
   (if decide (d.ak<0) then
    some (decide (a<=9223372036854775808))
   else
    some false).bind fun c =>
   if c then
    some (i64.wrap (IntKind.u64.wrap (0-a)),true)
   else
    if decide (d.ak>=0) then
     if decide (a<9223372036854775808) then
      some (i64.wrap a,true)
     else
      some (0,false)
    else
     some (0,false)
  | (.inr f) =>
   some f
def ui (b:aF):Option (Bool) :=
 (yp b).bind fun a =>
 if a.2 then
  some (a.1==1)
 else
  some false
def cQ (b:al):Option (Bool) :=
 (dr b.bK).bind fun d =>
 (if (!d) then
  some true
 else
  (dr b.bL).bind fun e =>
  if (!e) then
   some true
  else
   some (b.bL.ak != 1)).bind fun a =>
 if a then
  some false
 else
  (sR b.bK b.bL).bind fun c =>
  if (c.2==0) then
   (ui c.1).bind fun f =>
   some f
  else
   some false
def iM (a:al):Option (Int) :=
 (cQ a).bind fun b =>
 if (!b) then
  some 0
 else
  some a.bK.ak
def yw (b:(List Int)):(Int)->Option ((Int)⊕((Unit)⊕(Int)))
 | a =>
  if decide (a<(b.length:Int)) then
   (P.idx b a).bind fun c =>
   if (c != 0) then
    some (.inr (.inr c))
   else
    some (.inl (i64.wrap (a+1)))
  else
   some (.inr (.inl ()))
def wT (a:(List Int)):Option (Int) :=
 (aS (yw a) 0).bind fun q=>match q with
 | (.inl _) =>
  some 0
 | (.inr b) =>
  some b
def oT (a:bV) (b:bV):Option (Int) :=
 (gg a.cM b.cM).bind fun c =>
 (gg a.jR b.jR).bind fun d =>
 (wT ([c,d])).bind fun e =>
 some e
def yt:(Int×(List Int))->Option ((Int×(List Int))⊕(((List Int))))
 | (a,b) =>
  if decide (a>0) then
   (mK 8 b [i64.wrap (ma .and .u64 a 1048575)]).bind fun d =>
   (Aq .u64 a 20).bind fun c =>
   some (.inl (c,d))
  else
   some (.inr b)
def uW (d:Int):Option (aF) :=
 (if decide (d<0) then
  some ((-1),IntKind.u64.wrap (0-(IntKind.u64.wrap d)))
 else
  some (1,IntKind.u64.wrap d)).bind fun q=>match q with
 | (a,b) =>
  (aS (yt) (b,[])).bind fun c =>
  (dz a c).bind fun e =>
  some e
def gC (a:Int):Option (al) :=
 (uW a).bind fun b =>
 (uW 1).bind fun c =>
 some (al.mk b c)
def qA (a:aF):Option (aF) :=
 (dr a).bind fun b =>
 if (!b) then
  some (aF.mk 0 ([]))
 else
  (dA a.aa).bind fun c =>
  (dz (i64.wrap (0-a.ak)) c).bind fun d =>
  some d
def yr (b:aF) (c:aF):Option (aF×Int) :=
 (dr b).bind fun g =>
 (if (!g) then
  some true
 else
  (dr c).bind fun d =>
  some (!d)).bind fun a =>
 if a then
  (eY false (aF.mk 0 ([]))).bind fun e =>
  some (e.1,e.2)
 else
  (qC b.aa c.aa).bind fun h =>
  (dz (i64.wrap (b.ak*c.ak)) h).bind fun i =>
  (eY true i).bind fun f =>
  some (f.1,f.2)
def cB (a:aF) (b:aF):Option (aF) :=
 (yr a b).bind fun c =>
 some c.1
def rE (b:(List Int)) (c:(List Int)):(Int×Int×(List Int))->Option ((Int×Int×(List Int))⊕((Int×(List Int))))
 | (e,a,f) =>
  if decide (a<(b.length:Int)) then
   (P.idx b a).bind fun g =>
   (if decide (a<(c.length:Int)) then
    (P.idx c a).bind fun h =>
    some (i64.wrap ((i64.wrap (e+g))+h))
   else
    some (i64.wrap (e+g))).bind fun d =>
   (P.idx f a).bind fun j =>
   (Aq .i64 d 20).bind fun i =>
   some (.inl (i,i64.wrap (a+1),(f.set (a).toNat (ma .and .i64 d 1048575))))
  else
   some (.inr (e,f))
def sS (e:(List Int)) (f:(List Int)):Option ((List Int)) :=
 (if decide ((e.length:Int)<(f.length:Int)) then
  some (f,e)
 else
  some (e,f)).bind fun q=>match q with
 | (a,c) =>
  (Gt 8 (i64.wrap ((a.length:Int)+1)) (i64.wrap ((a.length:Int)+1)) 0).bind fun h =>
  (aS (rE a c) (0,0,h)).bind fun q=>match q with
  | (d,b) =>
   (P.idx b (a.length:Int)).bind fun i =>
   (eK (b.set ((a.length:Int)).toNat d)).bind fun g =>
   some g
def u6 (h:(List Int)) (i:(List Int)):(Int×Int×(List Int))->Option ((Int×Int×(List Int))⊕(((List Int))))
 | (d,a,c) =>
  if decide (a<((i).length:Int)) then
   (P.idx c a).bind fun e =>
   (if decide (a<(h.length:Int)) then
    (P.idx h a).bind fun f =>
    some (i64.wrap ((i64.wrap (e-d))-f))
   else
    some (i64.wrap (e-d))).bind fun b =>
   (Aq .i64 b 20).bind fun g =>
   some (.inl (ma .and .i64 g 1,i64.wrap (a+1),(c.set (a).toNat (ma .and .i64 b 1048575))))
  else
   some (.inr c)
def sU (d:(List Int)) (e:(List Int)):Option ((List Int)) :=
 (dA d).bind fun c =>
 (aS (u6 e c) (0,0,c)).bind fun a =>
 (eK a).bind fun b =>
 some b
def yo (a:aF) (b:aF):Option (aF×Int) :=
 (dr a).bind fun o =>
 (if (!o) then
  some true
 else
  (dr b).bind fun g =>
  some (!g)).bind fun c =>
 if c then
  (eY false (aF.mk 0 ([]))).bind fun n =>
  some (n.1,n.2)
 else
  if decide ((i64.wrap (a.ak*b.ak))>=0) then
   (wT ([a.ak,b.ak])).bind fun p =>
   (sS a.aa b.aa).bind fun q =>
   (dz p q).bind fun h =>
   (eY true h).bind fun d =>
   some (d.1,d.2)
  else
   (gO a.aa b.aa).bind fun i =>
   if decide (i<0) then
    (sU b.aa a.aa).bind fun j =>
    (dz b.ak j).bind fun k =>
    (eY true k).bind fun e =>
    some (e.1,e.2)
   else
    (sU a.aa b.aa).bind fun l =>
    (dz a.ak l).bind fun m =>
    (eY true m).bind fun f =>
    some (f.1,f.2)
def qz (c:aF) (a:aF):Option (aF×aF×Int) :=
 (dr c).bind fun l =>
 (if (!l) then
  some true
 else
  (dr a).bind fun f =>
  some (!f)).bind fun d =>
 if d then
  some ((aF.mk 0 ([])),(aF.mk 0 ([])),1)
 else
  if (a.ak==0) then
   some ((aF.mk 0 ([])),(aF.mk 0 ([])),15)
  else
   (uX c.aa a.aa).bind fun e =>
   (if decide ((i64.wrap (c.ak*a.ak))<0) then
    some (decide ((e.2.length:Int)>0))
   else
    some false).bind fun b =>
   if b then
    (sS e.1 ([1])).bind fun m =>
    (dz (-1) m).bind fun g =>
    (sU a.aa e.2).bind fun h =>
    (dz a.ak h).bind fun i =>
    some (g,i,0)
   else
    (dz (i64.wrap (c.ak*a.ak)) e.1).bind fun j =>
    (dz c.ak e.2).bind fun k =>
    some (j,k,0)
def nQ (i:aF) (f:aF):Option (al×Int) :=
 (dr i).bind fun l =>
 (if (!l) then
  some true
 else
  (dr f).bind fun j =>
  some (!j)).bind fun e =>
 if e then
  some ((al.mk (aF.mk 0 ([])) (aF.mk 0 ([]))),1)
 else
  if (f.ak==0) then
   some ((al.mk (aF.mk 0 ([])) (aF.mk 0 ([]))),15)
  else
   (if decide (f.ak<0) then
    (qA i).bind fun g =>
    (qA f).bind fun h =>
    some (g.ak,g.aa,h.ak,h.aa)
   else
    some (i.ak,i.aa,f.ak,f.aa)).bind fun q=>match q with
   | (a,b,c,d) =>
    (sR (aF.mk a b) (aF.mk c d)).bind fun k =>
    (qz (aF.mk a b) k.1).bind fun m =>
    (qz (aF.mk c d) k.1).bind fun n =>
    some ((al.mk m.1 n.1),0)
def me (b:al) (c:al):Option (al×Int) :=
 (cQ b).bind fun f =>
 (if (!f) then
  some true
 else
  (cQ c).bind fun d =>
  some (!d)).bind fun a =>
 if a then
  some ((al.mk (aF.mk 0 ([])) (aF.mk 0 ([]))),1)
 else
  (cB b.bK c.bL).bind fun g =>
  (cB c.bK b.bL).bind fun h =>
  (yo g h).bind fun i =>
  (cB b.bL c.bL).bind fun j =>
  (nQ i.1 j).bind fun e =>
  some (e.1,e.2)
def rT (c:al) (b:al):Option (al×Int) :=
 (cQ c).bind fun e =>
 (if (!e) then
  some true
 else
  (cQ b).bind fun f =>
  some (!f)).bind fun a =>
 if a then
  some ((al.mk (aF.mk 0 ([])) (aF.mk 0 ([]))),1)
 else
  (qA b.bK).bind fun g =>
  (me c (al.mk g b.bL)).bind fun d =>
  some (d.1,d.2)
def nY (c:(List al)):(Int×(List al))->Option ((Int×(List al))⊕(((List al))))
 | (a,b) =>
  if decide (a<((c).length:Int)) then
   (gC 1).bind fun d =>
   (P.idx b a).bind fun e =>
   some (.inl (i64.wrap (a+1),(b.set (a).toNat d)))
  else
   some (.inr b)
def nZ (f:dE):(Int×(List al))->Option ((Int×(List al))⊕(((List al))))
 | (a,b) =>
  if decide (a<(f.aP.length:Int)) then
   (P.idx f.aP a).bind fun c =>
   (P.idx b c.cM).bind fun d =>
   (rT d c.eo).bind fun e =>
   some (.inl (i64.wrap (a+1),(b.set (c.cM).toNat e.1)))
  else
   some (.inr b)
def nh (c:dE):Option ((List al)) :=
 (Gt 64 c.aC c.aC (al.mk (aF.mk 0 ([])) (aF.mk 0 ([])))).bind fun d =>
 (aS (nY d) (0,d)).bind fun a =>
 (aS (nZ c) (0,a)).bind fun b =>
 some b
def pQ (a:al):Option (Bool) :=
 (iM a).bind fun b =>
 some (decide (b<0))
def dR (b:(List al)):(Int)->Option ((Int)⊕((Unit)⊕(Int)))
 | a =>
  if decide (a<(b.length:Int)) then
   (P.idx b a).bind fun c =>
   (pQ c).bind fun d =>
   if d then
    some (.inr (.inr a))
   else
    some (.inl (i64.wrap (a+1)))
  else
   some (.inr (.inl ()))
def dF (a:(List al)):Option (Int) :=
 (aS (dR a) 0).bind fun q=>match q with
 | (.inl _) =>
  some (-1)
 | (.inr b) =>
  some b
def cr (a:(List al)):Option (Bool) :=
 (dF a).bind fun b =>
 some (decide (b>=0))
def nX (d:dE):(Int)->Option ((Int)⊕((Unit)⊕(Bool)))
 | a =>
  if decide (a<(d.aP.length:Int)) then
   (P.idx d.aP a).bind fun b =>
   (eu b.cM 0 (i64.wrap (d.aC-1))).bind fun e =>
   (if (!e) then
    some true
   else
    (eu b.jR 0 (i64.wrap (d.aC-1))).bind fun f =>
    if (!f) then
     some true
    else
     (cQ b.eo).bind fun g =>
     if (!g) then
      some true
     else
      (iM b.eo).bind fun h =>
      some (decide (h<=0))).bind fun c =>
   if c then
    some (.inr (.inr false))
   else
    if decide (a>0) then
     (P.idx d.aP (i64.wrap (a-1))).bind fun i =>
     (oT i b).bind fun j =>
     if decide (j>=0) then
      some (.inr (.inr false))
     else
      some (.inl (i64.wrap (a+1)))
    else
     some (.inl (i64.wrap (a+1)))
  else
   some (.inr (.inl ()))
def lI (b:dE):Option (Bool) :=
 (eu b.aC 0 2000).bind fun e =>
 (if (!e) then
  some true
 else
  some (decide ((b.aP.length:Int)>8000))).bind fun a =>
 if a then
  some false
 else
  (aS (nX b) 0).bind fun q=>match q with
  | (.inl _) =>
   (nh b).bind fun c =>
   (cr c).bind fun d =>
   some (!d)
  | (.inr f) =>
   some f
def kf (a:al):Option (Bool) :=
 (cQ a).bind fun b =>
 some (!b)
def dn (b:(List al)):(Int)->Option ((Int)⊕((Unit)⊕(Int)))
 | a =>
  if decide (a<(b.length:Int)) then
   (P.idx b a).bind fun c =>
   (kf c).bind fun d =>
   if d then
    some (.inr (.inr a))
   else
    some (.inl (i64.wrap (a+1)))
  else
   some (.inr (.inl ()))
def cP (a:(List al)):Option (Int) :=
 (aS (dn a) 0).bind fun q=>match q with
 | (.inl _) =>
  some (-1)
 | (.inr b) =>
  some b
def cw (a:(List al)):Option (Bool) :=
 (cP a).bind fun b =>
 some (decide (b>=0))
def gT (a:(List al)) (b:Int):Option (Bool) :=
 if ((a.length:Int)==b) then
  (cw a).bind fun c =>
  some (!c)
 else
  some false
def lE (f:dE):(Int×(List (List Int)))->Option ((Int×(List (List Int)))⊕(((List (List Int)))))
 | (a,b) =>
  if decide (a<(f.aP.length:Int)) then
   (P.idx f.aP a).bind fun c =>
   (P.idx b c.jR).bind fun d =>
   (mK 8 d [c.cM]).bind fun e =>
   some (.inl (i64.wrap (a+1),(b.set (c.jR).toNat e)))
  else
   some (.inr b)
def lF (d:(List al)):(Int×(List Int)×(List Int))->Option ((Int×(List Int)×(List Int))⊕(((List Int)×(List Int))))
 | (a,b,c) =>
  if decide (a<(d.length:Int)) then
   (P.idx d a).bind fun e =>
   (P.idx b a).bind fun h =>
   (iM e).bind fun f =>
   if decide (f>0) then
    (P.idx (b.set (a).toNat (-1)) a).bind fun i =>
    (mK 8 c [a]).bind fun g =>
    some (.inl (i64.wrap (a+1),((b.set (a).toNat (-1)).set (a).toNat 0),g))
   else
    some (.inl (i64.wrap (a+1),(b.set (a).toNat (-1)),c))
  else
   some (.inr (b,c))
def lH (f:Int) (e:(List Int)):(Int×(List Int)×(List Int))->Option ((Int×(List Int)×(List Int))⊕(((List Int)×(List Int))))
 | (a,b,c) =>
  if decide (a<((e).length:Int)) then
   (P.idx e a).bind fun d =>
   (P.idx b d).bind fun g =>
   if (g==(-1)) then
    (P.idx b f).bind fun h =>
    (mK 8 c [d]).bind fun i =>
    some (.inl (i64.wrap (a+1),(b.set (d).toNat (i64.wrap (h+1))),i))
   else
    some (.inl (i64.wrap (a+1),b,c))
  else
   some (.inr (b,c))
def lG (b:(List (List Int))):((List Int)×(List Int))->Option (((List Int)×(List Int))⊕(((List Int))))
 | (c,a) =>
  if decide (((a).length:Int)>0) then
   (P.idx a 0).bind fun d =>
   (Eg a 1 (a.length:Int)).bind fun g =>
   (P.idx b d).bind fun h =>
   (aS (lH d h) (0,c,g)).bind fun q=>match q with
   | (e,f) =>
    some (.inl (e,f))
  else
   some (.inr c)
def nd (a:dE):Option ((List Int)) :=
 (lI a).bind fun h =>
 if (!h) then
  some ([])
 else
  (Gt 24 a.aC a.aC ([])).bind fun i =>
  (aS (lE a) (0,i)).bind fun b =>
  (Gt 8 a.aC a.aC 0).bind fun f =>
  (nh a).bind fun g =>
  (aS (lF g) (0,f,[])).bind fun q=>match q with
  | (c,d) =>
   (aS (lG b) (c,d)).bind fun e =>
   some e
def jB (d:(List Int)):(Int×(List Int))->Option ((Int×(List Int))⊕(((List Int))))
 | (a,b) =>
  if decide (a<(d.length:Int)) then
   (P.idx d a).bind fun e =>
   if (e==(-1)) then
    (mK 8 b [a]).bind fun c =>
    some (.inl (i64.wrap (a+1),c))
   else
    some (.inl (i64.wrap (a+1),b))
  else
   some (.inr b)
def kV (b:dE):Option ((List Int)) :=
 (nd b).bind fun c =>
 (aS (jB c) (0,[])).bind fun a =>
 some a
def iy (e:(List al)) (f:(List aG)):(Int×(List aG))->Option ((Int×(List aG))⊕(((List aG))))
 | (a,b) =>
  if decide (a<((f).length:Int)) then
   (P.idx e a).bind fun c =>
   (P.idx b a).bind fun d =>
   some (.inl (i64.wrap (a+1),(b.set (a).toNat (aG.mk c d.bU))))
  else
   some (.inr b)
def iz (f:dE):(Int×(List aG))->Option ((Int×(List aG))⊕(((List aG))))
 | (a,b) =>
  if decide (a<(f.aP.length:Int)) then
   (P.idx f.aP a).bind fun c =>
   (P.idx b c.jR).bind fun d =>
   (mK 72 d.bU [(eS.mk c.cM c.eo)]).bind fun e =>
   some (.inl (i64.wrap (a+1),(b.set (c.jR).toNat (aG.mk d.bl e))))
  else
   some (.inr b)
def dZ (c:dE) (e:(List al)):Option ((List aG)) :=
 (Gt 88 c.aC c.aC (aG.mk (al.mk (aF.mk 0 ([])) (aF.mk 0 ([]))) ([]))).bind fun d =>
 (aS (iy e d) (0,d)).bind fun a =>
 (aS (iz c) (0,a)).bind fun b =>
 some b
def dM (a:eS) (b:Int):Option (Int) :=
 (gg a.nP b).bind fun c =>
 some c
def b8 (f:(List eS)) (g:Int):(Int×Int)->Option ((Int×Int)⊕((Int)))
 | (b,a) =>
  if decide (b<a) then
   (Aq .u64 (IntKind.u64.wrap (i64.wrap (b+a))) 1).bind fun c =>
   (P.idx f (i64.wrap c)).bind fun d =>
   (dM d g).bind fun e =>
   if decide (e<0) then
    some (.inl (i64.wrap ((i64.wrap c)+1),a))
   else
    some (.inl (b,i64.wrap c))
  else
   some (.inr b)
def bt (b:(List eS)) (e:Int):Option (Int×Bool) :=
 (aS (b8 b e) (0,(b.length:Int))).bind fun a =>
 if decide (a<(b.length:Int)) then
  (P.idx b a).bind fun c =>
  (dM c e).bind fun d =>
  some (a,(d==0))
 else
  some (a,false)
def de (a:aG) (c:Int):Option (aG×(Int×Bool)) :=
 (bt a.bU c).bind fun b =>
 some (a,(b.1,b.2))
def gS (a:(List eS)) (b c:Int):Option (List eS):=Y4 a b c
def pI (c:al) (b:al):Option (al×Int) :=
 (cQ c).bind fun e =>
 (if (!e) then
  some true
 else
  (cQ b).bind fun f =>
  some (!f)).bind fun a =>
 if a then
  some ((al.mk (aF.mk 0 ([])) (aF.mk 0 ([]))),1)
 else
  if (b.bK.ak==0) then
   some ((al.mk (aF.mk 0 ([])) (aF.mk 0 ([]))),15)
  else
   (cB c.bK b.bL).bind fun g =>
   (cB c.bL b.bK).bind fun h =>
   (nQ g h).bind fun d =>
   some (d.1,d.2)
def e9 (f:al×Int) (d:(List eS)):(Int×(List eS))->Option ((Int×(List eS))⊕(((List eS))))
 | (b,a) =>
  if decide (b<((d).length:Int)) then
   (P.idx a b).bind fun c =>
   (pI c.gA f.1).bind fun e =>
   some (.inl (i64.wrap (b+1),(a.set (b).toNat (eS.mk c.nP e.1))))
  else
   some (.inr a)
def dW (f:aG) (g:Int):Option (aG×(Unit)) :=
 (de f g).bind fun b =>
 if (!b.2.2) then
  some (b.1,())
 else
  (gC 1).bind fun h =>
  (P.idx b.1.bU b.2.1).bind fun i =>
  (rT h i.gA).bind fun e =>
  (gS b.1.bU b.2.1 (i64.wrap (b.2.1+1))).bind fun c =>
  (pI b.1.bl e.1).bind fun d =>
  (aS (e9 e c) (0,c)).bind fun a =>
  some ((aG.mk d.1 a),())
def pJ (b:al) (c:al):Option (al×Int) :=
 (cQ b).bind fun e =>
 (if (!e) then
  some true
 else
  (cQ c).bind fun f =>
  some (!f)).bind fun a =>
 if a then
  some ((al.mk (aF.mk 0 ([])) (aF.mk 0 ([]))),1)
 else
  (cB b.bK c.bK).bind fun g =>
  (cB b.bL c.bL).bind fun h =>
  (nQ g h).bind fun d =>
  some (d.1,d.2)
def iA (a:al) (b:al) (c:al):Option (al) :=
 (pJ b c).bind fun d =>
 (me a d.1).bind fun e =>
 some e.1
def eU (f:aG) (c:Int) (d:al):Option (aG×(Unit)) :=
 (de f c).bind fun a =>
 if a.2.2 then
  (P.idx a.1.bU a.2.1).bind fun e =>
  (gC 1).bind fun g =>
  (iA e.gA d g).bind fun h =>
  some ((aG.mk a.1.bl (a.1.bU.set (a.2.1).toNat (eS.mk e.nP h))),())
 else
  (ZX 72 a.1.bU a.2.1 [(eS.mk c d)]).bind fun b =>
  some ((aG.mk a.1.bl b),())
def fL (k:aG) (l:eS):(Int×Int×(List Int)×Int×(List Int)×(List eS))->Option ((Int×Int×(List Int)×Int×(List Int)×(List eS))⊕((Int×(List Int)×Int×(List Int)×(List eS))))
 | (a,b,c,d,e,f) =>
  if decide (a<(k.bU.length:Int)) then
   (P.idx k.bU a).bind fun h =>
   (gC 0).bind fun i =>
   (iA i l.gA h.gA).bind fun j =>
   (eU (aG.mk (al.mk (aF.mk b c) (aF.mk d e)) f) h.nP j).bind fun g =>
   some (.inl (i64.wrap (a+1),g.1.bl.bK.ak,g.1.bl.bK.aa,g.1.bl.bL.ak,g.1.bl.bL.aa,g.1.bU))
  else
   some (.inr (b,c,d,e,f))
def eV (j:aG) (k:Int) (h:aG):Option (aG×(Unit)) :=
 (de j k).bind fun g =>
 if (!g.2.2) then
  some (g.1,())
 else
  (P.idx g.1.bU g.2.1).bind fun i =>
  (gS g.1.bU g.2.1 (i64.wrap (g.2.1+1))).bind fun l =>
  (iA g.1.bl i.gA h.bl).bind fun a =>
  (aS (fL h i) (0,a.bK.ak,a.bK.aa,a.bL.ak,a.bL.aa,l)).bind fun q=>match q with
  | (b,c,d,e,f) =>
   some ((aG.mk (al.mk (aF.mk b c) (aF.mk d e)) f),())
def nA (c:Int):(Int×(List (Bool×aG)))->Option ((Int×(List (Bool×aG)))⊕(((List (Bool×aG)))))
 | (b,a) =>
  if decide (b<((a).length:Int)) then
   (P.idx a b).bind fun d =>
   (P.idx a c).bind fun e =>
   (Rm e).bind fun f =>
   (QI d).bind fun g =>
   (eV g c f).bind fun h =>
   some (.inl (i64.wrap (b+1),(a.set (b).toNat (false,h.1))))
  else
   some (.inr a)
def lh (g:(List aG)):(Int×(List (Bool×aG)))->Option ((Int×(List (Bool×aG)))⊕(((List (Bool×aG)))))
 | (a,b) =>
  if decide (a<((g).length:Int)) then
   (P.idx b a).bind fun d =>
   (QI d).bind fun e =>
   (dW e a).bind fun f =>
   (aS (nA a) (i64.wrap (a+1),(b.set (a).toNat (true,f.1)))).bind fun c =>
   some (.inl (i64.wrap (a+1),c))
  else
   some (.inr b)
def pV (i:(List al)) (g:aG):(Int×Int×(List Int)×Int×(List Int))->Option ((Int×Int×(List Int)×Int×(List Int))⊕((Int×(List Int)×Int×(List Int))))
 | (e,a,b,c,d) =>
  if decide (e<(g.bU.length:Int)) then
   (P.idx g.bU e).bind fun h =>
   (P.idx i h.nP).bind fun j =>
   (iA (al.mk (aF.mk a b) (aF.mk c d)) h.gA j).bind fun f =>
   some (.inl (i64.wrap (e+1),f.bK.ak,f.bK.aa,f.bL.ak,f.bL.aa))
  else
   some (.inr (a,b,c,d))
def lj (h:(List (Bool×aG))):(Int×(List al))->Option ((Int×(List al))⊕(((List al))))
 | (a,f) =>
  if decide (a>=0) then
   (P.idx h a).bind fun k =>
   (Rm k).bind fun i =>
   (gC 0).bind fun j =>
   (iA i.bl j j).bind fun g =>
   (aS (pV f i) (0,g.bK.ak,g.bK.aa,g.bL.ak,g.bL.aa)).bind fun q=>match q with
   | (b,c,d,e) =>
    (P.idx f a).bind fun l =>
    some (.inl (i64.wrap (a-1),(f.set (a).toNat (al.mk (aF.mk b c) (aF.mk d e)))))
  else
   some (.inr f)
def iw (c:dE) (g:(List al)):Option ((List al)×Int) :=
 (lI c).bind fun i =>
 (if (!i) then
  some true
 else
  (gT g c.aC).bind fun e =>
  some (!e)).bind fun b =>
 if b then
  some ([],1)
 else
  (kV c).bind fun j =>
  if decide ((j.length:Int)>0) then
   some ([],24)
  else
   (dZ c g).bind fun h =>
   (aS (lh h) (0,(JO h))).bind fun a =>
   (Gt 64 c.aC c.aC (al.mk (aF.mk 0 ([])) (aF.mk 0 ([])))).bind fun f =>
   (aS (lj a) (i64.wrap (((a).length:Int)-1),f)).bind fun d =>
   some (d,0)
def og (c:aF) (d:aF):(Int)->Option ((Int)⊕((Unit)⊕(Bool)))
 | a =>
  if decide (a<(c.aa.length:Int)) then
   (P.idx c.aa a).bind fun e =>
   (P.idx d.aa a).bind fun b =>
   if (e != b) then
    some (.inr (.inr false))
   else
    some (.inl (i64.wrap (a+1)))
  else
   some (.inr (.inl ()))
def kZ (b:aF) (c:aF):Option (Bool) :=
 (if (b.ak != c.ak) then
  some true
 else
  some ((b.aa.length:Int) != (c.aa.length:Int))).bind fun a =>
 if a then
  some false
 else
  (aS (og b c) 0).bind fun q=>match q with
  | (.inl _) =>
   some true
  | (.inr d) =>
   some d
def Bm (a:al) (b:al):Option (Bool) :=
 (kZ a.bK b.bK).bind fun c =>
 if c then
  (kZ a.bL b.bL).bind fun d =>
  some d
 else
  some false
def DO (d:(List al)) (e:(List al)):(Int)->Option ((Int)⊕((Unit)⊕(Bool)))
 | a =>
  if decide (a<(d.length:Int)) then
   (P.idx d a).bind fun f =>
   (P.idx e a).bind fun b =>
   (Bm f b).bind fun c =>
   if (!c) then
    some (.inr (.inr false))
   else
    some (.inl (i64.wrap (a+1)))
  else
   some (.inr (.inl ()))
def Bn (a:(List al)) (b:(List al)):Option (Bool) :=
 if ((a.length:Int) != (b.length:Int)) then
  some false
 else
  (aS (DO a b) 0).bind fun q=>match q with
  | (.inl _) =>
   some true
  | (.inr c) =>
   some c
def mY (b:aF) (c:aF):Option (Int) :=
 (dr b).bind fun d =>
 (if (!d) then
  some true
 else
  (dr c).bind fun e =>
  some (!e)).bind fun a =>
 if a then
  some 0
 else
  if (b.ak != c.ak) then
   (gg b.ak c.ak).bind fun f =>
   some f
  else
   (gO b.aa c.aa).bind fun g =>
   some (i64.wrap (b.ak*g))
def fD (b:al) (c:al):Option (Int) :=
 (cQ b).bind fun d =>
 (if (!d) then
  some true
 else
  (cQ c).bind fun e =>
  some (!e)).bind fun a =>
 if a then
  some 0
 else
  (cB b.bK c.bL).bind fun f =>
  (cB c.bK b.bL).bind fun g =>
  (mY f g).bind fun h =>
  some h
def xQ (j:(List al)) (g:aG):(Int×Int×(List Int)×Int×(List Int))->Option ((Int×Int×(List Int)×Int×(List Int))⊕((Int×(List Int)×Int×(List Int))))
 | (a,b,c,d,e) =>
  if decide (a<(g.bU.length:Int)) then
   (P.idx g.bU a).bind fun h =>
   (P.idx j h.nP).bind fun i =>
   (iA (al.mk (aF.mk b c) (aF.mk d e)) h.gA i).bind fun f =>
   some (.inl (i64.wrap (a+1),f.bK.ak,f.bK.aa,f.bL.ak,f.bL.aa))
  else
   some (.inr (b,c,d,e))
def xP (i:(List al)) (j:(List aG)):(Int)->Option ((Int)⊕((Unit)⊕(Bool)))
 | a =>
  if decide (a<(j.length:Int)) then
   (P.idx j a).bind fun b =>
   (aS (xQ i b) (0,b.bl.bK.ak,b.bl.bK.aa,b.bl.bL.ak,b.bl.bL.aa)).bind fun q=>match q with
   | (c,d,e,f) =>
    (P.idx i a).bind fun g =>
    (fD (al.mk (aF.mk c d) (aF.mk e f)) g).bind fun h =>
    if (h != 0) then
     some (.inr (.inr false))
    else
     some (.inl (i64.wrap (a+1)))
  else
   some (.inr (.inl ()))
def nz (b:dE) (e:(List al)) (f:(List al)):Option (Bool) :=
 (lI b).bind fun g =>
 (if (!g) then
  some true
 else
  (gT e b.aC).bind fun c =>
  if (!c) then
   some true
  else
   (gT f b.aC).bind fun d =>
   some (!d)).bind fun a =>
 if a then
  some false
 else
  (dZ b e).bind fun h =>
  (aS (xP f h) 0).bind fun q=>match q with
  | (.inl _) =>
   some true
  | (.inr i) =>
   some i
def pK (b:dE) (d:(List Int)) (e:(List Int)):Option (Bool) :=
 (mh d).bind fun c =>
 (iw b c).bind fun a =>
 if (a.2==0) then
  (mh e).bind fun f =>
  (Bn a.1 f).bind fun g =>
  if g then
   (nz b c a.1).bind fun h =>
   some h
  else
   some false
 else
  some false
def um:Option (Bool) :=
 (nU 0 1 1 2).bind fun b =>
 (nU 1 0 1 2).bind fun c =>
 (nU 0 1 1 1).bind fun n =>
 (nU 1 2 1 3).bind fun o =>
 (nU 0 0 3 4).bind fun p =>
 (nU 1 0 1 1).bind fun q =>
 (mh ([1,0])).bind fun r =>
 (iw (dE.mk 2 ([n,q])) r).bind fun d =>
 (mh ([1])).bind fun e =>
 (iw (dE.mk 2 ([b,c])) e).bind fun f =>
 (pK (dE.mk 2 ([b,c])) ([30,0]) ([40,20])).bind fun g =>
 (if g then
  (pK (dE.mk 3 ([n,o])) ([6,3,0]) ([6,9,3])).bind fun h =>
  if h then
   (pK (dE.mk 1 ([p])) ([1]) ([4])).bind fun i =>
   if i then
    (pK (dE.mk 0 ([])) ([]) ([])).bind fun j =>
    some j
   else
    some false
  else
   some false
 else
  some false).bind fun a =>
 if a then
  if (d.2==24) then
   if (f.2==1) then
    (mh ([30,0])).bind fun k =>
    (mh ([40,21])).bind fun l =>
    (nz (dE.mk 2 ([b,c])) k l).bind fun m =>
    some (!m)
   else
    some false
  else
   some false
 else
  some false
def vG (a:al) (b:Int):Option (Bool) :=
 if decide ((a.bK.aa.length:Int)<=b) then
  some (decide ((a.bL.aa.length:Int)<=b))
 else
  some false
def eO (b:(List al)):(Int)->Option ((Int)⊕((Unit)⊕(Bool)))
 | a =>
  if decide (a<(b.length:Int)) then
   (P.idx b a).bind fun c =>
   (vG c 4).bind fun d =>
   if (!d) then
    some (.inr (.inr false))
   else
    some (.inl (i64.wrap (a+1)))
  else
   some (.inr (.inl ()))
def oh (c:gN):(Int)->Option ((Int)⊕((Unit)⊕(Bool)))
 | a =>
  if decide (a<(c.aL.length:Int)) then
   (P.idx c.aL a).bind fun b =>
   if decide ((b.length:Int)>8) then
    some (.inr (.inr false))
   else
    (aS (eO b) 0).bind fun q=>match q with
    | (.inl _) =>
     some (.inl (i64.wrap (a+1)))
    | (.inr rd) =>
     some (.inr (.inr rd))
  else
   some (.inr (.inl ()))
def k9 (b:gN):Option (Bool) :=
 (if decide ((b.aq.length:Int)>5) then
  some true
 else
  if decide ((b.aO.length:Int)>5) then
   some true
  else
   some (decide ((b.aL.length:Int)>8))).bind fun a =>
 if a then
  some false
 else
  (aS (oh b) 0).bind fun q=>match q with
  | (.inl _) =>
   some true
  | (.inr c) =>
   some c
def vH (d:ct):(Int)->Option ((Int)⊕((Unit)⊕(Bool)))
 | a =>
  if decide (a<(d.aD.length:Int)) then
   (P.idx d.aD a).bind fun b =>
   (k9 b.ay).bind fun c =>
   if (!c) then
    some (.inr (.inr false))
   else
    if decide ((b.a8.length:Int)>6) then
     some (.inr (.inr false))
    else
     if decide ((b.aC.length:Int)>6) then
      some (.inr (.inr false))
     else
      some (.inl (i64.wrap (a+1)))
  else
   some (.inr (.inl ()))
def yG (b:ct):Option (Bool) :=
 (if decide ((b.av.length:Int)>6) then
  some true
 else
  some (decide ((b.aD.length:Int)>5))).bind fun a =>
 if a then
  some false
 else
  (aS (vH b) 0).bind fun q=>match q with
  | (.inl _) =>
   some true
  | (.inr c) =>
   some c
def vJ (e:(List al)) (f:Int):(Int)->Option ((Int)⊕((Unit)⊕(Bool)))
 | a =>
  (if decide (a<(e.length:Int)) then
   some (decide (a<=14))
  else
   some false).bind fun b =>
  if b then
   (P.idx e a).bind fun c =>
   (vG c f).bind fun d =>
   if (!d) then
    some (.inr (.inr false))
   else
    some (.inl (i64.wrap (a+1)))
  else
   some (.inr (.inl ()))
def yH (a:(List al)) (b:Int):Option (Bool) :=
 (aS (vJ a b) 0).bind fun q=>match q with
 | (.inl _) =>
  some (decide ((a.length:Int)<=14))
 | (.inr c) =>
  some c
def qK (a:al) (b:al):Option (al) :=
 (me a b).bind fun c =>
 some c.1
def qL (j:(List al)):(Int×Int×(List Int)×Int×(List Int))->Option ((Int×Int×(List Int)×Int×(List Int))⊕((Int×(List Int)×Int×(List Int))⊕(Bool)))
 | (f,a,b,c,d) =>
  if decide (f<(j.length:Int)) then
   (P.idx j f).bind fun g =>
   (cQ g).bind fun h =>
   if (!h) then
    some (.inr (.inr false))
   else
    (iM g).bind fun i =>
    if decide (i<0) then
     some (.inr (.inr false))
    else
     (qK (al.mk (aF.mk a b) (aF.mk c d)) g).bind fun e =>
     some (.inl (i64.wrap (f+1),e.bK.ak,e.bK.aa,e.bL.ak,e.bL.aa))
  else
   some (.inr (.inl (a,b,c,d)))
def rj (h:(List al)):Option (Bool) :=
 (gC 0).bind fun e =>
 (aS (qL h) (0,e.bK.ak,e.bK.aa,e.bL.ak,e.bL.aa)).bind fun q=>match q with
 | (.inl (a,b,c,d)) =>
  (gC 1).bind fun f =>
  (fD (al.mk (aF.mk a b) (aF.mk c d)) f).bind fun g =>
  some (g==0)
 | (.inr i) =>
  some i
def lJ (c:gN):(Int)->Option ((Int)⊕((Unit)⊕(Bool)))
 | a =>
  if decide (a<(c.aO.length:Int)) then
   (P.idx c.aO a).bind fun b =>
   (eu b.bG 0 3).bind fun d =>
   if (!d) then
    some (.inr (.inr false))
   else
    if decide (b.aY<0) then
     some (.inr (.inr false))
    else
     (P.idx c.aL a).bind fun e =>
     if ((e.length:Int) != (c.aq.length:Int)) then
      some (.inr (.inr false))
     else
      some (.inl (i64.wrap (a+1)))
  else
   some (.inr (.inl ()))
def gX (f:gN) (c:Int):(Int×(List al))->Option ((Int×(List al))⊕(((List al))))
 | (a,b) =>
  if decide (a<(f.aO.length:Int)) then
   (P.idx f.aL a).bind fun d =>
   (P.idx d c).bind fun e =>
   (P.idx b a).bind fun g =>
   some (.inl (i64.wrap (a+1),(b.set (a).toNat e)))
  else
   some (.inr b)
def lK (b:gN):(Int)->Option ((Int)⊕((Unit)⊕(Bool)))
 | a =>
  if decide (a<(b.aq.length:Int)) then
   (P.idx b.aq a).bind fun c =>
   (Gt 64 (b.aO.length:Int) (b.aO.length:Int) (al.mk (aF.mk 0 ([])) (aF.mk 0 ([])))).bind fun e =>
   (aS (gX b a) (0,e)).bind fun d =>
   (eu c.bG 0 2).bind fun f =>
   if (!f) then
    some (.inr (.inr false))
   else
    if decide (c.aY<0) then
     some (.inr (.inr false))
    else
     (rj d).bind fun g =>
     if (!g) then
      some (.inr (.inr false))
     else
      some (.inl (i64.wrap (a+1)))
  else
   some (.inr (.inl ()))
def kl (b:gN):Option (Bool) :=
 (if decide ((b.aq.length:Int)>100) then
  some true
 else
  if decide ((b.aO.length:Int)>100) then
   some true
  else
   some ((b.aL.length:Int) != (b.aO.length:Int))).bind fun a =>
 if a then
  some false
 else
  (aS (lJ b) 0).bind fun q=>match q with
  | (.inl _) =>
   (aS (lK b) 0).bind fun q=>match q with
   | (.inl _) =>
    some true
   | (.inr rc) =>
    some rc
  | (.inr c) =>
   some c
def oU (a:ic) (b:Int):Option (Bool) :=
 (eu a.cm 0 (i64.wrap (b-1))).bind fun c =>
 if (!c) then
  some true
 else
  (eu a.aT 1 1099511627776).bind fun d =>
  some (!d)
def oV (a:Int) (b:Int):Option (Bool) :=
 (eu a 0 (i64.wrap (b-1))).bind fun c =>
 some (!c)
def pA (a:(List Int)):Option (List Int):=M9 a
def cX (a:(List Int)):Option (List Int):=Es a
def n5 (b:(List Int)):(Int)->Option ((Int)⊕((Unit)⊕(Bool)))
 | a =>
  if decide (a<((b).length:Int)) then
   (P.idx b a).bind fun c =>
   if (a != c) then
    some (.inr (.inr false))
   else
    some (.inl (i64.wrap (a+1)))
  else
   some (.inr (.inl ()))
def kW (b:(List Int)) (c:Int):Option (Bool) :=
 (pA b).bind fun d =>
 (cX d).bind fun a =>
 (aS (n5 a) 0).bind fun q=>match q with
 | (.inl _) =>
  some (((a).length:Int)==c)
 | (.inr e) =>
  some e
def dB (c:(List ic)) (b:Int):(Int)->Option ((Int)⊕((Unit)⊕(Int)))
 | a =>
  if decide (a<(c.length:Int)) then
   (P.idx c a).bind fun d =>
   (oU d b).bind fun e =>
   if e then
    some (.inr (.inr a))
   else
    some (.inl (i64.wrap (a+1)))
  else
   some (.inr (.inl ()))
def cY (b:(List ic)) (a:Int):Option (Int) :=
 (aS (dB b a) 0).bind fun q=>match q with
 | (.inl _) =>
  some (-1)
 | (.inr c) =>
  some c
def cc (b:(List ic)) (a:Int):Option (Bool) :=
 (cY b a).bind fun c =>
 some (decide (c>=0))
def dC (c:(List Int)) (b:Int):(Int)->Option ((Int)⊕((Unit)⊕(Int)))
 | a =>
  if decide (a<(c.length:Int)) then
   (P.idx c a).bind fun d =>
   (oV d b).bind fun e =>
   if e then
    some (.inr (.inr a))
   else
    some (.inl (i64.wrap (a+1)))
  else
   some (.inr (.inl ()))
def cZ (b:(List Int)) (a:Int):Option (Int) :=
 (aS (dC b a) 0).bind fun q=>match q with
 | (.inl _) =>
  some (-1)
 | (.inr c) =>
  some c
def cd (b:(List Int)) (a:Int):Option (Bool) :=
 (cZ b a).bind fun c =>
 some (decide (c>=0))
def nf (e:ck):(Int×(List Int))->Option ((Int×(List Int))⊕(((List Int))))
 | (a,b) =>
  if decide (a<(e.ay.aq.length:Int)) then
   (P.idx e.ay.aq a).bind fun c =>
   if (c.bG==1) then
    (mK 8 b [c.aY]).bind fun d =>
    some (.inl (i64.wrap (a+1),d))
   else
    some (.inl (i64.wrap (a+1),b))
  else
   some (.inr b)
def ng (e:ck):(Int×(List Int))->Option ((Int×(List Int))⊕(((List Int))))
 | (a,b) =>
  if decide (a<(e.ay.aO.length:Int)) then
   (P.idx e.ay.aO a).bind fun c =>
   if (c.bG==0) then
    (mK 8 b [c.aY]).bind fun d =>
    some (.inl (i64.wrap (a+1),d))
   else
    some (.inl (i64.wrap (a+1),b))
  else
   some (.inr b)
def uq (a:ck) (h:Int):Option (Bool) :=
 (kl a.ay).bind fun i =>
 if (!i) then
  some false
 else
  (aS (nf a) (0,[])).bind fun b =>
  (aS (ng a) (0,[])).bind fun c =>
  (kW b (a.a8.length:Int)).bind fun d =>
  if d then
   (kW c (a.aC.length:Int)).bind fun e =>
   if e then
    (cc a.a8 h).bind fun f =>
    if (!f) then
     (cd a.aC h).bind fun g =>
     some (!g)
    else
     some false
   else
    some false
  else
   some false
def lz (c:ct):(Int)->Option ((Int)⊕((Unit)⊕(Int×Int)))
 | a =>
  if decide (a<(c.av.length:Int)) then
   (P.idx c.av a).bind fun d =>
   (eu d 1 1099511627776).bind fun b =>
   if (!b) then
    some (.inr (.inr (3,a)))
   else
    some (.inl (i64.wrap (a+1)))
  else
   some (.inr (.inl ()))
def lA (c:ck):(Int×(List Int))->Option ((Int×(List Int))⊕(((List Int))))
 | (a,b) =>
  if decide (a<(c.aC.length:Int)) then
   (P.idx c.aC a).bind fun d =>
   (P.idx b d).bind fun e =>
   some (.inl (i64.wrap (a+1),(b.set (d).toNat (i64.wrap (e+1)))))
  else
   some (.inr b)
def lB (d:ck):(Int×(List Int))->Option ((Int×(List Int))⊕(((List Int))))
 | (a,c) =>
  if decide (a<(d.a8.length:Int)) then
   (P.idx d.a8 a).bind fun b =>
   (P.idx c b.cm).bind fun e =>
   some (.inl (i64.wrap (a+1),(c.set (b.cm).toNat (if 1099511627777<(i64.wrap (e+b.aT)) then 1099511627777 else i64.wrap (e+b.aT)))))
  else
   some (.inr c)
def jU (g:ct):(Int×(List Int)×(List Int))->Option ((Int×(List Int)×(List Int))⊕(((List Int)×(List Int))⊕(Int×Int)))
 | (a,c,d) =>
  if decide (a<(g.aD.length:Int)) then
   (P.idx g.aD a).bind fun b =>
   (uq b (g.av.length:Int)).bind fun h =>
   if (!h) then
    some (.inr (.inr (1,a)))
   else
    (aS (lA b) (0,c)).bind fun e =>
    (aS (lB b) (0,d)).bind fun f =>
    some (.inl (i64.wrap (a+1),e,f))
  else
   some (.inr (.inl (c,d)))
def lC (b:(List Int)):(Int)->Option ((Int)⊕((Unit)⊕(Int×Int)))
 | a =>
  if decide (a<((b).length:Int)) then
   (P.idx b a).bind fun c =>
   if (c==0) then
    some (.inr (.inr (21,a)))
   else
    if decide (c>1) then
     some (.inr (.inr (5,a)))
    else
     some (.inl (i64.wrap (a+1)))
  else
   some (.inr (.inl ()))
def lD (d:ct) (b:(List Int)):(Int)->Option ((Int)⊕((Unit)⊕(Int×Int)))
 | a =>
  if decide (a<((b).length:Int)) then
   (P.idx b a).bind fun c =>
   (P.idx d.av a).bind fun x76 =>
   if decide (c>x76) then
    some (.inr (.inr (25,a)))
   else
    some (.inl (i64.wrap (a+1)))
  else
   some (.inr (.inl ()))
def q9 (a:ct):Option (Int×Int) :=
 (if decide ((a.av.length:Int)>2000) then
  some true
 else
  some (decide ((a.aD.length:Int)>400))).bind fun b =>
 if b then
  some (6,0)
 else
  (aS (lz a) 0).bind fun q=>match q with
  | (.inl _) =>
   (Gt 8 (a.av.length:Int) (a.av.length:Int) 0).bind fun c =>
   (aS (jU a) (0,c,c)).bind fun q=>match q with
   | (.inl (d,e)) =>
    (aS (lC d) 0).bind fun q=>match q with
    | (.inl _) =>
     (aS (lD a e) 0).bind fun q=>match q with
     | (.inl _) =>
      some (0,0)
     | (.inr f) =>
      some f
    | (.inr g) =>
     some g
   | (.inr rc) =>
    some rc
  | (.inr h) =>
   some h
def yA (b:Int) (c:Int):Option (al×Int) :=
 (uW b).bind fun d =>
 (uW c).bind fun e =>
 (nQ d e).bind fun a =>
 some (a.1,a.2)
def gW (g:ck) (e:Int) (c:ic) (j:al×Int):(Int×(List ((Int×Int)×al)))->Option ((Int×(List ((Int×Int)×al)))⊕(((List ((Int×Int)×al)))))
 | (a,b) =>
  if decide (a<(g.ay.aO.length:Int)) then
   (P.idx g.ay.aO a).bind fun h =>
   (if (h.bG != 0) then
    some true
   else
    (P.idx g.ay.aL a).bind fun k =>
    (P.idx k e).bind fun l =>
    (iM l).bind fun m =>
    some (m==0)).bind fun f =>
   if f then
    some (.inl (i64.wrap (a+1),b))
   else
    (P.idx g.aC h.aY).bind fun d =>
    (P.idx g.ay.aL a).bind fun n =>
    (P.idx n e).bind fun o =>
    (pJ j.1 o).bind fun i =>
    if nS b (c.cm,d) then
     (qK (al.mk ((fS (al.mk (aF.mk 0 ([])) (aF.mk 0 ([]))) b (c.cm,d)).bK) ((fS (al.mk (aF.mk 0 ([])) (aF.mk 0 ([]))) b (c.cm,d)).bL)) i.1).bind fun p =>
     some (.inl (i64.wrap (a+1),(sj b (c.cm,d) p)))
    else
     some (.inl (i64.wrap (a+1),(sj b (c.cm,d) i.1)))
  else
   some (.inr b)
def jC (i:(List Int)) (f:ck):(Int×(List ((Int×Int)×al)))->Option ((Int×(List ((Int×Int)×al)))⊕(((List ((Int×Int)×al)))))
 | (a,b) =>
  if decide (a<(f.ay.aq.length:Int)) then
   (P.idx f.ay.aq a).bind fun d =>
   if (d.bG != 1) then
    some (.inl (i64.wrap (a+1),b))
   else
    (P.idx f.a8 d.aY).bind fun c =>
    (P.idx i c.cm).bind fun g =>
    (yA c.aT g).bind fun h =>
    (aS (gW f a c h) (0,b)).bind fun e =>
    some (.inl (i64.wrap (a+1),e))
  else
   some (.inr b)
def jo (b:(List ((Int×Int)×al))) (c:(List Int)) (d:ck):Option ((List ((Int×Int)×al))×(Unit)) :=
 (aS (jC c d) (0,b)).bind fun a =>
 some (a,())
def Em (p:Int) (m:List ((Int×Int)×al)):Option (dE×Int) :=
 if m.length<=8000∧(m.map (·.1)).Nodup then some (dE.mk p (qm (kL bV.cM bV.jR) (m.map fun q=>bV.mk q.1.1 q.1.2 q.2)),0) else none
def rf (c:ct):(Int×(List ((Int×Int)×al)))->Option ((Int×(List ((Int×Int)×al)))⊕(((List ((Int×Int)×al)))))
 | (a,b) =>
  if decide (a<(c.aD.length:Int)) then
   (P.idx c.aD a).bind fun e =>
   (jo b c.av e).bind fun d =>
   some (.inl (i64.wrap (a+1),d.1))
  else
   some (.inr b)
def Cw (b:ct):Option (dE×Int) :=
 (q9 b).bind fun c =>
 if (c.1 != 0) then
  some ((dE.mk 0 ([])),c.1)
 else
  (aS (rf b) (0,([]:(List ((Int×Int)×al))))).bind fun a =>
  if decide ((a.length:Int)>8000) then
   some ((dE.mk 0 ([])),6)
  else
   Em (b.av.length:Int) a
def DM (c:aF) (d:aF):(Int)->Option ((Int)⊕((Unit)⊕(Bool)))
 | a =>
  if decide (a<(c.aa.length:Int)) then
   (P.idx c.aa a).bind fun e =>
   (P.idx d.aa a).bind fun b =>
   if (e != b) then
    some (.inr (.inr false))
   else
    some (.inl (i64.wrap (a+1)))
  else
   some (.inr (.inl ()))
def xI (b:aF) (c:aF):Option (Bool) :=
 (if (b.ak != c.ak) then
  some true
 else
  some ((b.aa.length:Int) != (c.aa.length:Int))).bind fun a =>
 if a then
  some false
 else
  (aS (DM b c) 0).bind fun q=>match q with
  | (.inl _) =>
   some true
  | (.inr d) =>
   some d
def np (b:aF) (c:aF):Option (Int) :=
 (eZ b).bind fun e =>
 (if (!e) then
  some true
 else
  (eZ c).bind fun f =>
  if (!f) then
   some true
  else
   (xI b c).bind fun d =>
   some d).bind fun a =>
 if a then
  some 0
 else
  if (b.ak != c.ak) then
   if decide (b.ak<c.ak) then
    some (-1)
   else
    some 1
  else
   (so b.aa c.aa).bind fun g =>
   if (g==(decide (b.ak>0))) then
    some (-1)
   else
    some 1
def rl (b:al):Option (Bool) :=
 (eZ b.bK).bind fun c =>
 (if (!c) then
  some true
 else
  (eZ b.bL).bind fun d =>
  if (!d) then
   some true
  else
   some (decide (b.bL.ak<1))).bind fun a =>
 if a then
  some false
 else
  (tn b.bK b.bL).bind fun e =>
  (xH 1).bind fun f =>
  (np e.1 f).bind fun g =>
  some (g==0)
def oo (b:(List al)):(Int)->Option ((Int)⊕((Unit)⊕(Bool)))
 | a =>
  if decide (a<(b.length:Int)) then
   (P.idx b a).bind fun c =>
   (rl c).bind fun d =>
   if (!d) then
    some (.inr (.inr false))
   else
    some (.inl (i64.wrap (a+1)))
  else
   some (.inr (.inl ()))
def nt (a:(List al)) (b:Int):Option (Bool) :=
 (aS (oo a) 0).bind fun q=>match q with
 | (.inl _) =>
  some ((a.length:Int)==b)
 | (.inr c) =>
  some c
def se (a:dE) (b:Int):Option (al) :=
 (lI a).bind fun c =>
 if (!c) then
  some (al.mk (aF.mk 0 ([])) (aF.mk 0 ([])))
 else
  (eu b 0 (i64.wrap (a.aC-1))).bind fun d =>
  if (!d) then
   some (al.mk (aF.mk 0 ([])) (aF.mk 0 ([])))
  else
   (nh a).bind fun e =>
   (P.idx e b).bind fun f =>
   some f
def kJ (i:(List al)) (j:Bool):(Int×Int×(List Int)×Int×(List Int))->Option ((Int×Int×(List Int)×Int×(List Int))⊕((Int×(List Int)×Int×(List Int))⊕(Bool)))
 | (e,a,b,c,d) =>
  if decide (e<(i.length:Int)) then
   (P.idx i e).bind fun g =>
   (iM g).bind fun h =>
   if decide (h<0) then
    some (.inr (.inr j))
   else
    (me (al.mk (aF.mk a b) (aF.mk c d)) g).bind fun f =>
    some (.inl (i64.wrap (e+1),f.1.bK.ak,f.1.bK.aa,f.1.bL.ak,f.1.bL.aa))
  else
   some (.inr (.inl (a,b,c,d)))
def kK (m:(List al)) (n:dE×Int) (l:(List al)×Int) (b:Int) (c:(List Int)) (d:Int) (e:(List Int)):(Int)->Option ((Int)⊕((Unit)⊕(Bool)))
 | a =>
  if decide (a<(l.1.length:Int)) then
   (se n.1 a).bind fun g =>
   (P.idx l.1 a).bind fun f =>
   (pJ g f).bind fun h =>
   (P.idx m a).bind fun i =>
   (fD f i).bind fun j =>
   if decide (j<0) then
    some (.inr (.inr false))
   else
    (fD h.1 (al.mk (aF.mk b c) (aF.mk d e))).bind fun k =>
    if decide (k>0) then
     some (.inr (.inr false))
    else
     some (.inl (i64.wrap (a+1)))
  else
   some (.inr (.inl ()))
def ir (k:ct) (f:(List al)):Option (Bool) :=
 (um).bind fun i =>
 (yG k).bind fun p =>
 (if (!p) then
  some true
 else
  (yH f 4).bind fun m =>
  some (!m)).bind fun g =>
 if g then
  some i
 else
  (Cw k).bind fun n =>
  if (n.2 != 0) then
   some i
  else
   (iw n.1 f).bind fun l =>
   if (l.2 != 0) then
    (if i then
     if (l.2==24) then
      some true
     else
      (nt f (k.av.length:Int)).bind fun o =>
      some (!o)
    else
     some false).bind fun j =>
    some j
   else
    (if ((l.1.length:Int) != (f.length:Int)) then
     some true
    else
     some ((f.length:Int) != (k.av.length:Int))).bind fun h =>
    if h then
     some false
    else
     (tr 0).bind fun e =>
     (aS (kJ f i) (0,e.bK.ak,e.bK.aa,e.bL.ak,e.bL.aa)).bind fun q=>match q with
     | (.inl (a,b,c,d)) =>
      (aS (kK f n l a b c d) 0).bind fun q=>match q with
      | (.inl _) =>
       some i
      | (.inr r) =>
       some r
     | (.inr rd) =>
      some rd
end Go.Proofs.YtokgehacmjmfkaaGreat.P
namespace Go.Proofs.YtokgehacmjmfkaaGreat.Am
open Go.RowKit P
variable (l:Option (D×Row)) (d:List D)
set_option maxRecDepth 100000
set_option maxHeartbeats 4000000
def bZ.gZ {P:Program} {T:Nat->Option Ty} {Γ:Env} (i:ji P T) (j:bI P Γ) (k:P.follows .mixedOrders=true) {α β:Type} {A:jH α} {F:α->Option β} {R:β->RK} {mode:Mode} {f:FuncId} {b:Func} {G:Option (D×Row)->List D->Option (RK×Option Row)} (m:P.funcs[f]? = some b)
  (g:((match b.body with|some c=>codeOk c|none=>true)&&(!(b.name == "runtime.NumGoroutine") && !b.body.isNone))=true) (hG:∀l d,G l d=dN A F R l d) (n:∀a,Nat.ble (A.ds a).length b.ntmps=true) (h:∀a r,F a=some r->lT mode T Γ FU b none (A.ds a)=some (R r,none)):bZ P f G:=by
 have e:G=dN A F R:=funext fun l=>funext fun d=>hG l d;subst e;exact bZ.ofB i j k m g n h
def dT {Γ:Env} (j:bI prog Γ) {α β:Type} {A:jH α} {F:α->Option β} {R:β->RK} {f n:Nat} {b:Func} {G:Option (D×Row)->List D->Option (RK×Option Row)} {rs:List ResultVar} {c:Code} (m:prog.funcs[f]? = some b) (g:((match b.body with|some c=>codeOk c|none=>true)&&(!(b.name == "runtime.NumGoroutine") && !b.body.isNone))=true) (q:∀l d,G l d=dN A F R l d) (o:∀a,Nat.ble (A.ds a).length b.ntmps=true) (s:b.ntmps=n) (t:b.results=rs.toArray) (y:b.body=some c) (z:∀x r,F x=some r->dD tab Γ n FU [.code c] (ZH .clean tab none rs (R r,none)) .normal (AE (A.ds x)) Ko 0) (e:n<=1000000:=by exact aki rfl):bZ prog f G:=bZ.gZ tok j mixed m g q o fun x r h=>aJ y s t (z x r h) e
def vmt:=ai @Wi<|ai @adW<|ai @adX<|ai @abb<|ai @MX<|ai @TL<|ai @MY<|ai @HC<|ai @aa3<|ai @aa4<|ai @TM<|ai @MZ<|ai @aa5<|ai @TN<|ai @TO<|ai @TP<|ai @TQ<|ai @TR<|ai @M0<|ai @aa6<|ai @aa7<|ai @aa8<|ai @aa9<|ai @TS<|ai @aba<|ai @M3<|ai @M4<|ai @Eu<|ai @We<|ai @Wf<|ai @Wg<|@Wh
def fl:iF aF:=A0 (nc (eI .i64) (nM (eI .i64))) (fun x=>(x.ak,x.aa)) (by rintro⟨⟩ ⟨⟩ h;simpa using h)
def Dj (x:aF):fl.cells x=[.int .i64 x.ak,.sl false false x.aa.length (ae (eI .i64) x.aa)]:=alM
def OJ (x:aF):aF.mk x.ak x.aa=x:=alM
def au:iF al:=A0 (nc fl fl) (fun x=>(x.bK,x.bL)) (by rintro⟨⟩ ⟨⟩ h;simpa using h)
def AX (x:al):au.cells x=[.int .i64 x.bK.ak,.sl false false x.bK.aa.length (ae (eI .i64) x.bK.aa),.int .i64 x.bL.ak,.sl false false x.bL.aa.length (ae (eI .i64) x.bL.aa)]:=alM
def Dk:au.size=4:=alM
def JG (x:al):al.mk x.bK x.bL=x:=alM
def bP:iF bV:=A0 (nc (eI .i64) (nc (eI .i64) au)) (fun x=>(x.cM,x.jR,x.eo)) (by rintro⟨⟩ ⟨⟩ h;simpa using h)
def qF (x:bV):bP.cells x=[.int .i64 x.cM,.int .i64 x.jR,.int .i64 x.eo.bK.ak,.sl false false x.eo.bK.aa.length (ae (eI .i64) x.eo.bK.aa),.int .i64 x.eo.bL.ak,.sl false false x.eo.bL.aa.length (ae (eI .i64) x.eo.bL.aa)]:=alM
def w7:bP.size=6:=alM
def JI (x:bV):bV.mk x.cM x.jR x.eo=x:=alM
def rI:iF dE:=A0 (nc (eI .i64) (nM bP)) (fun x=>(x.aC,x.aP)) (by rintro⟨⟩ ⟨⟩ h;simpa using h)
def Dm (x:dE):rI.cells x=[.int .i64 x.aC,.sl false false x.aP.length (ae bP x.aP)]:=alM
def OK (x:dE):dE.mk x.aC x.aP=x:=alM
def bW:iF eS:=A0 (nc (eI .i64) au) (fun x=>(x.nP,x.gA)) (by rintro⟨⟩ ⟨⟩ h;simpa using h)
def AZ (x:eS):bW.cells x=[.int .i64 x.nP,.int .i64 x.gA.bK.ak,.sl false false x.gA.bK.aa.length (ae (eI .i64) x.gA.bK.aa),.int .i64 x.gA.bL.ak,.sl false false x.gA.bL.aa.length (ae (eI .i64) x.gA.bL.aa)]:=alM
def sX:bW.size=5:=alM
def JJ (x:eS):eS.mk x.nP x.gA=x:=alM
def fO:iF aG:=A0 (nc au (nM bW)) (fun x=>(x.bl,x.bU)) (by rintro⟨⟩ ⟨⟩ h;simpa using h)
def oL (x:aG):fO.cells x=[.int .i64 x.bl.bK.ak,.sl false false x.bl.bK.aa.length (ae (eI .i64) x.bl.bK.aa),.int .i64 x.bl.bL.ak,.sl false false x.bl.bL.aa.length (ae (eI .i64) x.bl.bL.aa),.sl false false x.bU.length (ae bW x.bU)]:=alM
def v8:fO.size=5:=alM
def aU:iF aG:=A0 (nc au (Ow bW)) (fun x=>(x.bl,x.bU)) (by rintro⟨⟩ ⟨⟩ h;simpa using h)
def dO (x:aG):aU.cells x=[.int .i64 x.bl.bK.ak,.sl false false x.bl.bK.aa.length (ae (eI .i64) x.bl.bK.aa),.int .i64 x.bl.bL.ak,.sl false false x.bl.bL.aa.length (ae (eI .i64) x.bl.bL.aa),.nx (x.bU).length (ae bW (x.bU))]:=alM
def ug:aU.size=5:=alM
def Fw (x:aG):(aU.cells x).map y4=fO.cells x:=alM
def Fv (x:aG):(aU.cells x).all (tR 5)=true:=by simp[dO,tR,fA,bA,sX]
def bH:iF (Bool×aG):=afy fO aU rfl (by intro x y h;simp[oL,dO]at h)
def zg (x:aG):bH.cells (true,x)=[.int .i64 x.bl.bK.ak,.sl false false x.bl.bK.aa.length (ae (eI .i64) x.bl.bK.aa),.int .i64 x.bl.bL.ak,.sl false false x.bl.bL.aa.length (ae (eI .i64) x.bl.bL.aa),.sl false false x.bU.length (ae bW x.bU)]:=alM
def nN (x:aG):bH.cells (false,x)=aU.cells x:=alM
def Fu (x:aG):bH.cells (true,x)=fO.cells x:=alM
def oK:bH.size=5:=alM
def zh (x:aG):aG.mk x.bl x.bU=x:=alM
def ig:iF ic:=A0 (nc (eI .i64) (eI .i64)) (fun x=>(x.cm,x.aT)) (by rintro⟨⟩ ⟨⟩ h;simpa using h)
def Dp (x:ic):ig.cells x=[.int .i64 x.cm,.int .i64 x.aT]:=alM
def Ft:ig.size=2:=alM
def OL (x:ic):ic.mk x.cm x.aT=x:=alM
def bN:iF jQ:=A0 (nc (eI .i64) (nc (eI .i64) (eI .i64))) (fun x=>(x.bG,x.aY,x.aT)) (by rintro⟨⟩ ⟨⟩ h;simpa using h)
def wZ (x:jQ):bN.cells x=[.int .i64 x.bG,.int .i64 x.aY,.int .i64 x.aT]:=alM
def ze:bN.size=3:=alM
def fC:iF D1:=A0 (nc (eI .i64) (nc (eI .i64) (nc (eI .i64) aec))) (fun x=>(x.bG,x.aY,x.aT,x.LS)) (by rintro⟨⟩ ⟨⟩ h;simpa using h)
def Dn (x:D1):fC.cells x=[.int .i64 x.bG,.int .i64 x.aY,.int .i64 x.aT,.str x.LS]:=alM
def Fs:fC.size=4:=alM
def BW:iF gN:=A0 (nc (nM bN) (nc (nM fC) (nM (nM au)))) (fun x=>(x.aq,x.aO,x.aL)) (by rintro⟨⟩ ⟨⟩ h;simpa using h)
def AW (x:gN):BW.cells x=[.sl false false x.aq.length (ae bN x.aq),.sl false false x.aO.length (ae fC x.aO),.sl false false x.aL.length (ae (nM au) x.aL)]:=alM
def JF (x:gN):gN.mk x.aq x.aO x.aL=x:=alM
def dp:iF ck:=A0 (nc BW (nc (nM ig) (nM (eI .i64)))) (fun x=>(x.ay,x.a8,x.aC)) (by rintro⟨⟩ ⟨⟩ h;simpa using h)
def AY (x:ck):dp.cells x=[.sl false false x.ay.aq.length (ae bN x.ay.aq),.sl false false x.ay.aO.length (ae fC x.ay.aO),.sl false false x.ay.aL.length (ae (nM au) x.ay.aL),.sl false false x.a8.length (ae ig x.a8),.sl false false x.aC.length (ae (eI .i64) x.aC)]:=alM
def Dl:dp.size=5:=alM
def JH (x:ck):ck.mk x.ay x.a8 x.aC=x:=alM
def sW:iF ct:=A0 (nc (nM (eI .i64)) (nM dp)) (fun x=>(x.av,x.aD)) (by rintro⟨⟩ ⟨⟩ h;simpa using h)
def zf (x:ct):sW.cells x=[.sl false false x.av.length (ae (eI .i64) x.av),.sl false false x.aD.length (ae dp x.aD)]:=alM
def FJ (x:ct):ct.mk x.av x.aD=x:=alM
def ads {l:List _} : (ae (eI .i64) l).length=l.length*1:=bA _ l
def TU {l:List _} : (ae (eI .i64) l).take (l.length*1)=ae (eI .i64) l:=by
 have:=lr (eI .i64) l l.length;rw[akD]at this;exact this
def abe {l:List _} {i:Nat} {x:_} : (ae (eI .i64) (l.set i x)).take (l.length*1)=ae (eI .i64) (l.set i x):=by
 have:=@TU (l.set i x)
 rwa [akC]at this
def adt {l:List _} : (ae (nM au) l).length=l.length*1:=bA _ l
def adu {l:List _} : (ae au l).length=l.length*4:=bA _ l
def abc {l:List _} : (ae au l).take (l.length*4)=ae au l:=by
 have:=lr au l l.length;rw[akD]at this;exact this
def adv {l:List _} : (ae dp l).length=l.length*5:=bA _ l
def adw {l:List _} : (ae fC l).length=l.length*4:=bA _ l
def adx {l:List _} : (ae bN l).length=l.length*3:=bA _ l
def ady {l:List _} : (ae bP l).length=l.length*6:=bA _ l
def abd {l:List _} : (ae bP l).take (l.length*6)=ae bP l:=by
 have:=lr bP l l.length;rw[akD]at this;exact this
def adz {l:List _} : (ae ig l).length=l.length*2:=bA _ l
def Z7 {l:List _} : (ae fO l).length=l.length*5:=bA _ l
def Z8 {l:List _} : (ae bH l).length=l.length*5:=bA _ l
def Z9 {l:List _} : (ae aU l).length=l.length*5:=bA _ l
def aaa {l:List _} : (ae bW l).length=l.length*5:=bA _ l
def Wj {l:List _} : (ae bW l).take (l.length*5)=ae bW l:=by
 have:=lr bW l l.length;rw[akD]at this;exact this
def vme:=ai @AV<|ai @BV<|ai @UZ<|ai @Oy<|ai @OD<|ai @Js<|ai @Ox<|ai @dO<|ai @ug<|ai @zg<|ai @oK<|ai @Dj<|ai @AX<|ai @Dk<|ai @qF<|ai @w7<|ai @Dm<|ai @AZ<|ai @sX<|ai @oL<|ai @v8<|ai @Dp<|ai @Ft<|ai @wZ<|ai @ze<|ai @Dn<|ai @Fs<|ai @AW<|ai @AY<|ai @Dl<|@zf
def vml:=ai @bk<|ai @OJ<|ai @JG<|ai @JI<|ai @OK<|ai @JJ<|ai @zh<|ai @OL<|ai @JF<|ai @JH<|ai @FJ<|ai @ads<|ai @TU<|ai @abe<|ai @adt<|ai @adu<|ai @abc<|ai @adv<|ai @adw<|ai @adx<|ai @ady<|ai @abd<|ai @adz<|ai @Z7<|ai @Z8<|ai @Z9<|ai @aaa<|@Wj
def abB:Ws tab ⟨.map 70 41,1,8,[.map none],false⟩ true (.agg [.int .i64 0,.sl false false 0 [],.int .i64 0,.sl false false 0 []]):=⟨_,_,rfl,rfl,rfl,rfl⟩
def adE {h:Nat->Option Row} {m:D} {n a:Int} {b:Bool} : iL tab ⟨.map 70 41,1,8,[.map none],false⟩ h m (.agg [.int .i64 n,.int .i64 a]) b=lkE true b (.agg [.int .i64 0,.sl false false 0 [],.int .i64 0,.sl false false 0 []]) (n,some a) (mapOf h m):=aer abB rfl
def adI {h:Nat->Option Row} {y v:Nat} {n a:Int} {x:D} : ej tab ⟨.map 70 41,1,8,[.map none],false⟩ h (.mp y v) (.agg [.int .i64 n,.int .i64 a]) x=muE true h y v (n,some a) (y5 h x):=aey abB rfl
def adH {a e d:Nat} (b:a<900000):aan tab (some ⟨.map 70 41,1,8,[.map none],false⟩) a e d=some ⟨.mp d e,[(d,some ⟨e,a,[.mpc [] []],false,true,true⟩)]⟩:=acs abB b
def Vw {m:List ((Int×Int)×al)} {n a:Int} : s6 (.agg [.int .i64 0,.sl false false 0 [],.int .i64 0,.sl false false 0 []]) (eR m) (gJ (bJ au) m) (n,some a)=.agg [.int .i64 (((fS (al.mk (aF.mk 0 ([])) (aF.mk 0 ([]))) m (n,a)).bK).ak),.sl false false (((fS (al.mk (aF.mk 0 ([])) (aF.mk 0 ([]))) m (n,a)).bK).aa).length (ae (eI .i64) (((fS (al.mk (aF.mk 0 ([])) (aF.mk 0 ([]))) m (n,a)).bK).aa)),.int .i64 (((fS (al.mk (aF.mk 0 ([])) (aF.mk 0 ([]))) m (n,a)).bL).ak),.sl false false (((fS (al.mk (aF.mk 0 ([])) (aF.mk 0 ([]))) m (n,a)).bL).aa).length (ae (eI .i64) (((fS (al.mk (aF.mk 0 ([])) (aF.mk 0 ([]))) m (n,a)).bL).aa))]:=J7 (A:=(bJ au)) (al.mk (aF.mk 0 ([])) (aF.mk 0 ([]))) (n,a) m
def Wn {m:List ((Int×Int)×al)} {n a:Int} {d:Int} {b:(List Int)} {e:Int} {c:(List Int)} : D.mpc (Ak (eR m) (n,some a)) (Ed (eR m) (gJ (bJ au) m) (n,some a) (.agg [.int .i64 d,.sl false false b.length (ae (eI .i64) b),.int .i64 e,.sl false false c.length (ae (eI .i64) c)]))=.mpc (eR (sj m (n,a) (al.mk (aF.mk d b) (aF.mk e c)))) (gJ (bJ au) (sj m (n,a) (al.mk (aF.mk d b) (aF.mk e c)))):=by
 rw[<- QQ (n,a) (al.mk (aF.mk d b) (aF.mk e c)) m,<- QS (n,a) (al.mk (aF.mk d b) (aF.mk e c)) m];rfl
def aah {e d:Nat} (a:d<1000000):mkA ⟨.struct [(3,0),(30,1)],2,32,[.int .i64 0,.slice none 0 0],false⟩ 32 e d 50 6 1=some ⟨.ptr d e 0,[(d,some ⟨e,32,[.nr 50 6 (4*e+2) [.int .i64 0,.nx 0 []]],false,false,true⟩)]⟩:=by
 unfold mkA;rw[if_pos ⟨by decide,rfl,rfl,by rw[cK];exact a,rfl⟩];rfl
def vmm:=ai @adE<|ai @adI<|ai @adH<|ai @Vw<|ai @Wn<|@vi
def w:=ai @v<|ai @vmt<|ai @vme<|ai @vml<|ai @vn<|ai @aah<|@vmm
def bM:=ai @vme<|ai @aks<|ai @akh<|ai @aiS<|ai @akt<|@ajV
def jN:=dN (dy (jZ (eI .i64))) (fun x:(List Int)=>jc x) (fun r:(List Int) =>.clean (.sl false false r.length (ae (eI .i64) r))) l d
def sh0 {β:Type} {F:(List Int)->Option β} {R:β->RK} (a:(List Int)):dN (dy (jZ (eI .i64))) F R none [.sl false false a.length (ae (eI .i64) a)]=(F (a)).map fun r=>(R r,none):=cn _ _ _ (a)
def pT:bZ prog 123 jN:=dT bI.none func123 (by kernel_rfl) (fun _ _=>rfl) (fun _=>by kernel_rfl) ntmps123 results123 rfl fun g r a=>by
 simp only[hZ]at a⊢;unfold jc at a;simp only[w,seval];obtain⟨C,n,a⟩:=ah a;refine aA (fun s t H e=>match s with|h=>t 0=.sl false false g.length (ae (eI .i64) g)∧t 3=.int .i64 h) (fun o x t H e=>match o with|d=>x=.exit 0∧t 0=.sl false false g.length (ae (eI .i64) g)∧t 3=.int .i64 d) n ?_ ?_ ?_
 ·refine⟨?_,?_⟩;all_goals (rfl)
 ·rintro h t H e f c a;simp only[xK]at a;simp only[w,seval,f];apply sp fG a<;>intro _ a
  ·obtain⟨F,p,a⟩:=ah a;have i:=bz (eI .i64) p;simp only[bM]at i;simp only[w,seval,f,i];apply sp an a<;>intro _ a
   ·cases a;simp only[w,seval,f];apply iG;and_intros<;>first|rfl|(simp only[w,seval,f]<;>rfl)
   ·cases a;simp only[w,seval];apply jG;refine⟨rfl,⟨?_,?_⟩⟩;all_goals ((simp only[w,seval,f]<;>rfl))
  ·cases a;simp only[w,seval];apply jG;refine⟨rfl,⟨?_,?_⟩⟩;all_goals ((simp only[w,seval,f]<;>rfl))
 ·rintro x t H e B;obtain⟨d,rfl⟩:∃z,z=C:=⟨_,rfl⟩;dsimp only at B a;obtain⟨rfl,q⟩:=B;obtain⟨G,u,a⟩:=ah a;obtain⟨v,D,y,A,j⟩:=MO (eI .i64) u;simp only[bM]at j;obtain⟨E,k,a⟩:=ah a;obtain⟨b,l,m⟩:=Ej k;replace b:=b.symm;subst b;cases a;simp only[w,seval,q,v,y,A,j,l,m]
def mI:=dN (fK (aI .i64) (dy (jZ (eI .i64)))) (fun x:Int×(List Int)=>jb x.1 x.2) (fun r:aF =>.clean (.agg [.int .i64 r.ak,.sl false false r.aa.length (ae (eI .i64) r.aa)])) l d
def sh1 {β:Type} {F:Int×(List Int)->Option β} {R:β->RK} (b:Int) (a:(List Int)):dN (fK (aI .i64) (dy (jZ (eI .i64)))) F R none [.int .i64 b,.sl false false a.length (ae (eI .i64) a)]=(F (b,a)).map fun r=>(R r,none):=cn _ _ _ (b,a)
def zV:Env:=(Am.ext bf 123 false jN)
def Pb:bI prog zV:=(bI.none.add pT false)
def Aw:=ai @w<|ai @sh0<|ai @jN.eq_1<|@zV.eq_1
def tf:bZ prog 100 mI:=dT Pb func100 (by kernel_rfl) (fun _ _=>rfl) (fun _=>by kernel_rfl) ntmps100 results100 rfl fun⟨c,d⟩ r a=>by
 simp only[hZ]at a⊢;unfold jb at a;obtain⟨e,b,a⟩:=ah a;simp only[Aw,seval,b];apply sp an a<;>intro _ a
 ·cases a;simp only[Aw,seval]
 ·cases a;simp only[Aw,seval]
def rz:=dN (dy (aI .i64)) (fun x:Int=>xH x) (fun r:aF =>.clean (.agg [.int .i64 r.ak,.sl false false r.aa.length (ae (eI .i64) r.aa)])) l d
def sh2 {β:Type} {F:Int->Option β} {R:β->RK} (a:Int):dN (dy (aI .i64)) F R none [.int .i64 a]=(F (a)).map fun r=>(R r,none):=cn _ _ _ (a)
def FR:Env:=(Am.ext bf 100 false mI)
def W9:bI prog FR:=(bI.none.add tf false)
def gn:=ai @w<|ai @sh1<|ai @mI.eq_1<|@FR.eq_1
def Kw:bZ prog 64 rz:=dT W9 func64 (by kernel_rfl) (fun _ _=>rfl) (fun _=>by kernel_rfl) ntmps64 results64 rfl fun Q r a=>by
 simp only[hZ]at a⊢;unfold xH at a;simp only[gn,seval];apply sp an a<;>intro _ a
 ·cases a;simp only[gn,seval]
 ·simp only[gn,seval];obtain⟨S,K,a⟩:=ah a;refine mn 0 (fun s t H e=>match s with|b=>∃d:Nat,t 0=.int .i64 Q∧t 2=.ptr 2 d 0∧t 3=.int .i64 b∧H 2=some ⟨d,39,[.int .i64 0,.sl true true 0 []],false,false,false⟩) (fun s=>s=S) ?_ ?_
  ·rintro b t H e ⟨d,L⟩ rfl;try dsimp only at a
   simp only[gn,seval];obtain⟨M,q,a⟩:=ah a;refine aA (fun s t H e=>match s with|(u,m)=>∃f:Nat,∃j:Nat,t 0=.int .i64 u∧t 2=.ptr 2 f 0∧t 3=.int .i64 b∧t 4=.buf 4 j 1 0 (m).length∧H 2=some ⟨f,39,[.int .i64 0,.sl true true 0 []],false,false,false⟩∧H 4=some ⟨j,3,ae (eI .i64) m,false,true,false⟩) (fun o x t H e=>match o with|g=>x=.exit 0∧∃h:Nat,∃i:Nat,t 2=.ptr 2 h 0∧t 3=.int .i64 b∧t 4=.buf 4 i 1 0 (g).length∧H 2=some ⟨h,39,[.int .i64 0,.sl true true 0 []],false,false,false⟩∧H 4=some ⟨i,3,ae (eI .i64) g,false,true,false⟩) q ?_ ?_ ?_
   ·refine⟨d,e,?_⟩;and_intros<;>first|rfl|(simp only[gn,seval,L]<;>rfl)
   ·rintro⟨u,m⟩ t H e ⟨f,j,n⟩ c a;simp only[yE]at a;simp only[gn,seval,n];apply sp an a<;>intro _ a
    ·obtain⟨T,v,a⟩:=ah a;have p:=Be v;simp only[gn,seval,n,p];apply sp an a<;>intro _ a
     ·obtain⟨U,w,a⟩:=ah a;obtain⟨y,k,A,B⟩:=iT (eI .i64) w;simp only[bM]at k;obtain⟨V,C,a⟩:=ah a;have N:=va C;cases a;simp only[gn,seval,n,p,y,k,A,B,N];apply iG;refine⟨f,e+1+1+1+1,?_⟩;and_intros<;>first|rfl|(simp only[gn,seval,n]<;>rfl)
     ·obtain⟨W,D,a⟩:=ah a;obtain⟨E,l,F,G⟩:=iT (eI .i64) D;simp only[bM]at l;obtain⟨X,I,a⟩:=ah a;have O:=va I;cases a;simp only[gn,seval,n,p,E,l,F,G,O];apply iG;refine⟨f,e+1+1+1,?_⟩;and_intros<;>first|rfl|(simp only[gn,seval,n]<;>rfl)
    ·cases a;simp only[gn,seval];apply jG;refine⟨rfl,⟨f,j,?_,?_,?_,?_,?_⟩⟩;all_goals ((simp only[gn,seval,n]<;>rfl))
   ·rintro x t H e R;obtain⟨g,rfl⟩:∃z,z=M:=⟨_,rfl⟩;dsimp only at R a;obtain⟨rfl,⟨h,i,P⟩⟩:=R;obtain⟨Y,J,a⟩:=ah a;cases a;simp only[gn,seval,P,J]
  ·clear a;have a:=K;simp only[gn,seval];apply sp an a<;>intro _ a
   ·cases a;simp only[gn,seval];rw[aw];refine⟨_,rfl,?_⟩;refine⟨0,?_,?_,?_,?_⟩;all_goals (rfl)
   ·cases a;simp only[gn,seval];rw[aw];refine⟨_,rfl,?_⟩;refine⟨0,?_,?_,?_,?_⟩;all_goals (rfl)
def fZ:=dN (dy (bJ fl)) (fun x:aF=>eZ x) (fun r:Bool =>.clean (.bool r)) l d
def sh3 {β:Type} {F:aF->Option β} {R:β->RK} (b:Int) (a:(List Int)):dN (dy (bJ fl)) F R none [.agg [.int .i64 b,.sl false false a.length (ae (eI .i64) a)]]=(F ((aF.mk b a))).map fun r=>(R r,none):=cn _ _ _ ((aF.mk b a))
def lM:bZ prog 61 fZ:=dT bI.none func61 (by kernel_rfl) (fun _ _=>rfl) (fun _=>by kernel_rfl) ntmps61 results61 rfl fun f r a=>by
 simp only[hZ]at a⊢;unfold eZ at a;simp only[w,seval];obtain⟨A,y,a⟩:=ah a;refine aA (fun s t H e=>match s with|n=>∃g:Nat,t 1=.ptr 1 g 0∧t 3=.int .i64 n∧H 1=some ⟨g,39,[.int .i64 f.ak,.sl false false f.aa.length (ae (eI .i64) f.aa)],false,false,false⟩) (fun o x t H e=>match o with|(.inl _)=>x=.exit 0∧∃b:Nat,t 1=.ptr 1 b 0∧H 1=some ⟨b,39,[.int .i64 f.ak,.sl false false f.aa.length (ae (eI .i64) f.aa)],false,false,false⟩|(.inr r)=>x=.ret∧gi .clean tab none [.tmp 2] ⟨t,EH H,e⟩=some (.clean (.bool r),none)) y ?_ ?_ ?_
 ·refine⟨0,?_,?_,?_⟩;all_goals (rfl)
 ·rintro n t H e ⟨g,m⟩ c a;simp only[qQ]at a;simp only[w,seval,m];apply sp an a<;>intro _ a
  ·obtain⟨D,p,a⟩:=ah a;have h:=bz (eI .i64) p;simp only[bM]at h;simp only[w,seval,m,h];apply sp aZ a<;>intro _ a
   ·cases a;simp only[w,seval];refine tQ ⟨rfl,?_⟩;simp only[w,seval]
   ·have h:=bz (eI .i64) p;simp only[bM]at h;simp only[w,seval,m,h];apply sp an a<;>intro _ a
    ·cases a;simp only[w,seval];refine tQ ⟨rfl,?_⟩;simp only[w,seval]
    ·cases a;simp only[w,seval,m];apply iG;refine⟨g,?_⟩;and_intros<;>first|rfl|(simp only[w,seval,m]<;>rfl)
  ·cases a;simp only[w,seval];apply jG;refine⟨rfl,⟨g,?_,?_⟩⟩;all_goals ((simp only[w,seval,m]<;>rfl))
 ·rintro x t H e v;rcases A with _|E
  ·dsimp only at v a;obtain⟨rfl,⟨b,d⟩⟩:=v;simp only[w,seval,d];obtain⟨z,q,a⟩:=ah a;refine bS 0 (fun s t H e=>match s with|i=>∃j:Nat,t 1=.ptr 1 j 0∧t 4=.int .i64 (f.aa.length:Int)∧t 44=.bool i∧H 1=some ⟨j,39,[.int .i64 f.ak,.sl false false f.aa.length (ae (eI .i64) f.aa)],false,false,false⟩) (fun s=>s=z) ?_ ?_
   ·rintro i t H e ⟨j,l⟩ rfl;try dsimp only at a
    simp only[w,seval,l];apply sp an a<;>intro _ a
    ·cases a;simp only[w,seval]
    ·simp only[w,seval,l];apply sp aZ a<;>intro _ a
     ·cases a;simp only[w,seval]
     ·obtain⟨B,u,a⟩:=ah a;have k:=bz (eI .i64) u;simp only[bM]at k;cases a;simp only[w,seval,l,k]
   ·clear a;have a:=q;simp only[w,seval];apply sp aZ a<;>intro _ a
    ·cases a;simp only[w,seval];rw[aw];refine⟨_,rfl,?_⟩;refine⟨b,?_⟩;and_intros<;>first|rfl|(simp only[w,seval,d]<;>rfl)
    ·simp only[w,seval,d];apply sp aZ a<;>intro _ a
     ·cases a;simp only[w,seval];rw[aw];refine⟨_,rfl,?_⟩;refine⟨b,?_⟩;and_intros<;>first|rfl|(simp only[w,seval,d]<;>rfl)
     ·cases a;simp only[w,seval,d];rw[aw];refine⟨_,rfl,?_⟩;refine⟨b,?_⟩;and_intros<;>first|rfl|(simp only[w,seval,d]<;>rfl)
  ·dsimp only at v a;obtain⟨rfl,C⟩:=v;cases a;simp only[aX,ba,cv,cA];exact C
def yf:=dN (dy (bJ fl)) (fun x:aF=>vF x) (fun r:aF =>.clean (.agg [.int .i64 r.ak,.sl false false r.aa.length (ae (eI .i64) r.aa)])) l d
def Cg:Env:=(Am.ext (Am.ext bf 61 false fZ) 100 false mI)
def SZ:bI prog Cg:=((bI.none.add lM false).add tf false)
def CW:=ai @w<|ai @sh3<|ai @fZ.eq_1<|ai @sh1<|ai @mI.eq_1<|@Cg.eq_1
def Tl:bZ prog 103 yf:=dT SZ func103 (by kernel_rfl) (fun _ _=>rfl) (fun _=>by kernel_rfl) ntmps103 results103 rfl fun d r a=>by
 simp only[hZ]at a⊢;unfold vF at a;obtain⟨e,b,a⟩:=ah a;simp only[CW,seval,b];apply sp an a<;>intro _ a
 ·cases a;simp only[CW,seval]
 ·obtain⟨f,c,a⟩:=ah a;cases a;simp only[CW,seval,c]
def kN:=dN (fK (jZ (eI .i64)) (dy (aI .i64))) (fun x:(List Int)×Int=>jD x.1 x.2) (fun r:Int =>.clean (.int .i64 r)) l d
def sh4 {β:Type} {F:(List Int)×Int->Option β} {R:β->RK} (a:(List Int)) (b:Int):dN (fK (jZ (eI .i64)) (dy (aI .i64))) F R none [.sl false false a.length (ae (eI .i64) a),.int .i64 b]=(F (a,b)).map fun r=>(R r,none):=cn _ _ _ (a,b)
def qN:bZ prog 126 kN:=dT bI.none func126 (by kernel_rfl) (fun _ _=>rfl) (fun _=>by kernel_rfl) ntmps126 results126 rfl fun⟨d,e⟩ r a=>by
 simp only[hZ]at a⊢;unfold jD at a;simp only[w,seval];apply sp an a<;>intro _ a
 ·obtain⟨f,c,a⟩:=ah a;have b:=bz (eI .i64) c;simp only[bM]at b;cases a;simp only[w,seval,b]
 ·cases a;simp only[w,seval]
def wG:=dN (fK (jZ (eI .i64)) (dy (jZ (eI .i64)))) (fun x:(List Int)×(List Int)=>ns x.1 x.2) (fun r:(List Int) =>.clean (.sl false false r.length (ae (eI .i64) r))) l d
def sh5 {β:Type} {F:(List Int)×(List Int)->Option β} {R:β->RK} (a:(List Int)) (b:(List Int)):dN (fK (jZ (eI .i64)) (dy (jZ (eI .i64)))) F R none [.sl false false a.length (ae (eI .i64) a),.sl false false b.length (ae (eI .i64) b)]=(F (a,b)).map fun r=>(R r,none):=cn _ _ _ (a,b)
def xo:Env:=(Am.ext (Am.ext bf 123 false jN) 126 false kN)
def L7:bI prog xo:=((bI.none.add pT false).add qN false)
def cH:=ai @w<|ai @sh0<|ai @jN.eq_1<|ai @sh4<|ai @kN.eq_1<|@xo.eq_1
def My:bZ prog 124 wG:=dT L7 func124 (by kernel_rfl) (fun _ _=>rfl) (fun _=>by kernel_rfl) ntmps124 results124 rfl fun⟨q,u⟩ r a=>by
 simp only[hZ]at a⊢;unfold ns at a;obtain⟨x1,S,a⟩:=ah a;obtain⟨T,U,V,D,W⟩:=mk_one (eI .i64) S;simp only[bM]at D;simp only[cH,seval,T,U,V,D,W];obtain⟨X,E,a⟩:=ah a;refine aA (fun s t H e=>match s with|(g,A)=>∃h:Nat,t 0=.sl false false q.length (ae (eI .i64) q)∧t 1=.sl false false u.length (ae (eI .i64) u)∧t 5=.buf 5 h 1 0 (A).length∧t 6=.int .i64 g∧H 5=some ⟨h,3,ae (eI .i64) A,false,true,false⟩) (fun o x t H e=>match o with|i=>x=.exit 0∧∃j:Nat,t 5=.buf 5 j 1 0 (i).length∧H 5=some ⟨j,3,ae (eI .i64) i,false,true,false⟩) E ?_ ?_ ?_
 ·refine⟨1,?_,?_,?_,?_,?_⟩;all_goals (rfl)
 ·rintro⟨g,A⟩ t H e ⟨h,Y⟩ c a;simp only[qT]at a;simp only[cH,seval,Y];apply sp an a<;>intro _ a
  ·simp only[cH,seval];obtain⟨Z,F,a⟩:=ah a;refine aA (fun s t H e=>match s with|(B,C,k)=>∃l:Nat,t 0=.sl false false q.length (ae (eI .i64) q)∧t 1=.sl false false u.length (ae (eI .i64) u)∧t 5=.buf 5 l 1 0 (k).length∧t 6=.int .i64 g∧t 7=.int .i64 B∧t 8=.int .i64 C∧H 5=some ⟨l,3,ae (eI .i64) k,false,true,false⟩) (fun o x t H e=>match o with|m=>x=.exit 2∧∃d:Nat,t 0=.sl false false q.length (ae (eI .i64) q)∧t 1=.sl false false u.length (ae (eI .i64) u)∧t 5=.buf 5 d 1 0 (m).length∧t 6=.int .i64 g∧H 5=some ⟨d,3,ae (eI .i64) m,false,true,false⟩) F ?_ ?_ ?_
   ·refine⟨h,?_⟩;and_intros<;>first|rfl|(simp only[cH,seval,Y]<;>rfl)
   ·rintro⟨B,C,k⟩ t H e ⟨l,R⟩ c a;simp only[qU]at a;simp only[cH,seval,R];obtain⟨aa,G,a⟩:=ah a;refine bS 0 (fun s t H e=>match s with|n=>∃b:Nat,t 0=.sl false false q.length (ae (eI .i64) q)∧t 1=.sl false false u.length (ae (eI .i64) u)∧t 5=.buf 5 b 1 0 (k).length∧t 6=.int .i64 g∧t 7=.int .i64 B∧t 8=.int .i64 C∧t 29=.bool n∧H 5=some ⟨b,3,ae (eI .i64) k,false,true,false⟩) (fun s=>s=aa) ?_ ?_
    ·rintro n t H e ⟨b,v⟩ rfl;try dsimp only at a
     simp only[cH,seval,v];apply sp an a<;>intro _ a
     ·obtain⟨ai,p,a⟩:=ah a;have f:=bz (eI .i64) p;simp only[bM]at f;obtain⟨aj,I,a⟩:=ah a;have w:=bz (eI .i64) I;simp only[bM]at w;obtain⟨ak,J,a⟩:=ah a;simp only[cH,seval,v,f,w,J];refine bu (by kernel_rfl) ?_;obtain⟨K,L,a⟩:=ah a;have ab:=Be L;have f:=bz (eI .i64) p;simp only[bM]at f;have M:=fE (eI .i64) (x':=K) (fo:=0) (cs:=[.int .i64 K]) p rfl (aki rfl);simp only[bM,Nat.add_zero]at M;have y:=M;simp only[putCells,List.length_cons,List.length_nil,ajf]at y;obtain⟨al,N,a⟩:=ah a;have ad:=va N;cases a;simp only[seval,ab,y,ad];apply iG;refine⟨b,?_⟩;and_intros<;>first|rfl|(simp only[cH,seval,v]<;>rfl)
     ·cases a;simp only[cH,seval];apply jG;refine⟨rfl,⟨b,?_,?_,?_,?_,?_⟩⟩;all_goals ((simp only[cH,seval,v]<;>rfl))
    ·clear a;have a:=G;simp only[cH,seval];apply sp aZ a<;>intro _ a
     ·cases a;simp only[cH,seval];rw[aw];refine⟨_,rfl,?_⟩;refine⟨l,?_⟩;and_intros<;>first|rfl|(simp only[cH,seval,R]<;>rfl)
     ·cases a;simp only[cH,seval,R];rw[aw];refine⟨_,rfl,?_⟩;refine⟨l,?_⟩;and_intros<;>first|rfl|(simp only[cH,seval,R]<;>rfl)
   ·rintro x t H e O;obtain⟨m,rfl⟩:∃z,z=Z:=⟨_,rfl⟩;dsimp only at O a;obtain⟨rfl,⟨d,P⟩⟩:=O;cases a;simp only[cH,seval,P];apply iG;refine⟨d,?_⟩;and_intros<;>first|rfl|(simp only[cH,seval,P]<;>rfl)
  ·cases a;simp only[cH,seval];apply jG;refine⟨rfl,⟨h,?_,?_⟩⟩;all_goals ((simp only[cH,seval,Y]<;>rfl))
 ·rintro x t H e O;obtain⟨i,rfl⟩:∃z,z=X:=⟨_,rfl⟩;dsimp only at O a;obtain⟨rfl,⟨j,ag⟩⟩:=O;obtain⟨ao,Q,a⟩:=ah a;cases a;simp only[cH,seval,ag,Q]
def mH:=dN (fK (jZ (eI .i64)) (dy (jZ (eI .i64)))) (fun x:(List Int)×(List Int)=>so x.1 x.2) (fun r:Bool =>.clean (.bool r)) l d
def zU:Env:=(Am.ext bf 126 false kN)
def O9:bI prog zU:=(bI.none.add qN false)
def jY:=ai @w<|ai @sh4<|ai @kN.eq_1<|@zU.eq_1
def DI:bZ prog 102 mH:=dT O9 func102 (by kernel_rfl) (fun _ _=>rfl) (fun _=>by kernel_rfl) ntmps102 results102 rfl fun⟨i,j⟩ r a=>by
 simp only[hZ]at a⊢;unfold so at a;simp only[jY,seval];obtain⟨l,k,a⟩:=ah a;refine aA (fun s t H e=>match s with|b=>t 0=.sl false false i.length (ae (eI .i64) i)∧t 1=.sl false false j.length (ae (eI .i64) j)∧t 5=.int .i64 b) (fun o x t H e=>match o with|(.inl _)=>x=.exit 0|(.inr r)=>x=.ret∧gi .clean tab none [.tmp 4] ⟨t,EH H,e⟩=some (.clean (.bool r),none)) k ?_ ?_ ?_
 ·refine⟨?_,?_,?_⟩;all_goals (rfl)
 ·rintro b t H e d c a;simp only[tp]at a;simp only[jY,seval,d];apply sp an a<;>intro _ a
  ·obtain⟨n,f,a⟩:=ah a;obtain⟨p,g,a⟩:=ah a;simp only[jY,seval,d,f,g];apply sp an a<;>intro _ a
   ·cases a;simp only[jY,seval,d,f,g];refine tQ ⟨rfl,?_⟩;simp only[jY,seval]
   ·cases a;simp only[jY,seval,d];apply iG;and_intros<;>first|rfl|(simp only[jY,seval,d]<;>rfl)
  ·cases a;simp only[jY,seval];apply jG;exact rfl
 ·rintro x t H e h;rcases l with _|q
  ·dsimp only at h a;subst h;cases a;simp only[jY,seval]
  ·dsimp only at h a;obtain⟨rfl,m⟩:=h;cases a;simp only[aX,ba,cv,cA];exact m
def pC:=dN (fK (jZ (eI .i64)) (dy (jZ (eI .i64)))) (fun x:(List Int)×(List Int)=>oX x.1 x.2) (fun r:(List Int) =>.clean (.sl false false r.length (ae (eI .i64) r))) l d
def xn:Env:=(Am.ext (Am.ext bf 123 false jN) 126 false kN)
def L6:bI prog xn:=((bI.none.add pT false).add qN false)
def gU:=ai @w<|ai @sh0<|ai @jN.eq_1<|ai @sh4<|ai @kN.eq_1<|@xn.eq_1
def Bk:bZ prog 125 pC:=dT L6 func125 (by kernel_rfl) (fun _ _=>rfl) (fun _=>by kernel_rfl) ntmps125 results125 rfl fun⟨E,F⟩ r a=>by
 simp only[hZ]at a⊢;unfold oX at a;simp only[gU,seval];obtain⟨K,G,a⟩:=ah a;refine aA (fun s t H e=>match s with|(l,m,j)=>∃f:Nat,t 0=.sl false false E.length (ae (eI .i64) E)∧t 1=.sl false false F.length (ae (eI .i64) F)∧t 5=.buf 5 f 1 0 (j).length∧t 6=.int .i64 l∧t 7=.int .i64 m∧H 5=some ⟨f,3,ae (eI .i64) j,false,true,false⟩) (fun o x t H e=>match o with|b=>x=.exit 0∧∃d:Nat,t 5=.buf 5 d 1 0 (b).length∧H 5=some ⟨d,3,ae (eI .i64) b,false,true,false⟩) G ?_ ?_ ?_
 ·refine⟨1,?_,?_,?_,?_,?_,?_⟩;all_goals (rfl)
 ·rintro⟨l,m,j⟩ t H e ⟨f,k⟩ c a;simp only[qS]at a;simp only[gU,seval,k];apply sp an a<;>intro _ a
  ·obtain⟨L,n,a⟩:=ah a;have g:=bz (eI .i64) n;simp only[bM]at g;obtain⟨M,p,a⟩:=ah a;simp only[gU,seval,k,g,p];refine bu (by kernel_rfl) ?_;apply sp an a<;>intro _ a
   ·obtain⟨N,q,a⟩:=ah a;obtain⟨u,h,v,w⟩:=iT (eI .i64) q;simp only[bM]at h;cases a;simp only[gU,seval,k,u,h,v,w];apply iG;refine⟨e+1+1+1+1+1+1,?_⟩;and_intros<;>first|rfl|(simp only[gU,seval,k]<;>rfl)
   ·obtain⟨O,y,a⟩:=ah a;obtain⟨A,i,B,C⟩:=iT (eI .i64) y;simp only[bM]at i;cases a;simp only[gU,seval,k,A,i,B,C];apply iG;refine⟨e+1+1+1+1,?_⟩;and_intros<;>first|rfl|(simp only[gU,seval,k]<;>rfl)
  ·cases a;simp only[gU,seval];apply jG;refine⟨rfl,⟨f,?_,?_⟩⟩;all_goals ((simp only[gU,seval,k]<;>rfl))
 ·rintro x t H e J;obtain⟨b,rfl⟩:∃z,z=K:=⟨_,rfl⟩;dsimp only at J a;obtain⟨rfl,⟨d,I⟩⟩:=J;obtain⟨P,D,a⟩:=ah a;cases a;simp only[gU,seval,I,D]
def rA:=dN (fK (jZ (eI .i64)) (dy (jZ (eI .i64)))) (fun x:(List Int)×(List Int)=>sr x.1 x.2) (fun r:(List Int)×(List Int) =>.clean (.tup [.sl false false r.1.length (ae (eI .i64) r.1),.sl false false r.2.length (ae (eI .i64) r.2)])) l d
def xF (a:(List Int)) (b:(List Int)):wG none [.sl false false a.length (ae (eI .i64) a),.sl false false b.length (ae (eI .i64) b)]=(ns a b).map fun r:(List Int)=>(.clean (.sl false false r.length (ae (eI .i64) r)),none):=cn _ _ _ (a,b)
def Al (a:(List Int)):jN none [.sl false false a.length (ae (eI .i64) a)]=(jc a).map fun r:(List Int)=>(.clean (.sl false false r.length (ae (eI .i64) r)),none):=cn _ _ _ (a)
def zW:Env:=(Am.keep 7 (Am.ext (Am.ext (Am.ext (Am.ext bf 102 false mH) 123 false jN) 124 false wG) 125 false pC))
def Pc:bI prog zW:=(bI.keep ((((bI.none.add DI false).add pT false).add My false).add Bk false) 7)
def dY:=ai @w<|ai @sh5<|ai @mH.eq_1<|ai @Al<|ai @xF<|ai @pC.eq_1<|@zW.eq_1
def DJ:bZ prog 99 rA:=dT Pc func99 (by kernel_rfl) (fun _ _=>rfl) (fun _=>by kernel_rfl) ntmps99 results99 rfl fun⟨B,p⟩ r a=>by
 simp only[hZ]at a⊢;unfold sr at a;obtain⟨x1,aa,a⟩:=ah a;obtain⟨ab,ad,ag,D,ai⟩:=mk_one (eI .i64) aa;simp only[bM]at D;simp only[dY,seval,ab,ad,ag,D,ai];obtain⟨aj,E,a⟩:=ah a;refine aA (fun s t H e=>match s with|(C,m,d)=>∃h:Nat,t 0=.sl false false B.length (ae (eI .i64) B)∧t 1=.sl false false p.length (ae (eI .i64) p)∧t 6=.buf 6 h 1 0 (d).length∧t 7=.sl false false C.length (ae (eI .i64) C)∧t 8=.int .i64 m∧H 6=some ⟨h,3,ae (eI .i64) d,false,true,false⟩) (fun o x t H e=>match o with|(i,j)=>x=.exit 0∧∃k:Nat,t 6=.buf 6 k 1 0 (j).length∧t 7=.sl false false i.length (ae (eI .i64) i)∧H 6=some ⟨k,3,ae (eI .i64) j,false,true,false⟩) E ?_ ?_ ?_
 ·refine⟨1,?_,?_,?_,?_,?_,?_⟩;all_goals (rfl)
 ·rintro⟨C,m,d⟩ t H e ⟨h,Za⟩ c a;simp only[tq]at a;simp only[dY,seval,Za];apply sp an a<;>intro _ a
  ·obtain⟨ar,F,a⟩:=ah a;have l:=bz (eI .i64) F;simp only[bM]at l;obtain⟨au,G,a⟩:=ah a;obtain⟨q,u,I,J⟩:=abK (eI .i64) G;simp only[bk,bM,List.length_cons,ajf]at q u;obtain⟨n,K,a⟩:=ah a;simp only[dY,seval,Za,l,q,u,I,J,K];obtain⟨ak,L,a⟩:=ah a;refine aA (fun s t H e=>match s with|(M,v)=>∃g:Nat,t 0=.sl false false B.length (ae (eI .i64) B)∧t 1=.sl false false p.length (ae (eI .i64) p)∧t 6=.buf 6 g 1 0 (d).length∧t 7=.sl false false n.length (ae (eI .i64) n)∧t 8=.int .i64 m∧t 9=.int .i64 M∧t 10=.int .i64 v∧H 6=some ⟨g,3,ae (eI .i64) d,false,true,false⟩) (fun o x t H e=>match o with|b=>x=.exit 2∧∃f:Nat,t 0=.sl false false B.length (ae (eI .i64) B)∧t 1=.sl false false p.length (ae (eI .i64) p)∧t 6=.buf 6 f 1 0 (d).length∧t 7=.sl false false n.length (ae (eI .i64) n)∧t 8=.int .i64 m∧t 9=.int .i64 b∧H 6=some ⟨f,3,ae (eI .i64) d,false,true,false⟩) L ?_ ?_ ?_
   ·refine⟨h,?_⟩;and_intros<;>first|rfl|(simp only[dY,seval,Za]<;>rfl)
   ·rintro⟨M,v⟩ t H e ⟨g,N⟩ c a;simp only[pU]at a;simp only[dY,seval,N];apply sp an a<;>intro _ a
    ·obtain⟨al,O,a⟩:=ah a;have ao:=va O;have P:=xF p ([al]);simp only[bk,bM,List.length_cons,ajf]at P;obtain⟨av,Q,a⟩:=ah a;obtain⟨aw,R,a⟩:=ah a;simp only[dY,seval,N,ao,P,Q,R];apply sp an a<;>intro _ a
     ·cases a;simp only[dY,seval];apply iG;refine⟨g,?_⟩;and_intros<;>first|rfl|(simp only[dY,seval,N]<;>rfl)
     ·cases a;simp only[dY,seval];apply iG;refine⟨g,?_⟩;and_intros<;>first|rfl|(simp only[dY,seval,N]<;>rfl)
    ·cases a;simp only[dY,seval];apply jG;refine⟨rfl,⟨g,?_,?_,?_,?_,?_,?_,?_⟩⟩;all_goals ((simp only[dY,seval,N]<;>rfl))
   ·rintro x t H e S;obtain⟨b,rfl⟩:∃z,z=ak:=⟨_,rfl⟩;dsimp only at S a;obtain⟨rfl,⟨f,T⟩⟩:=S;obtain⟨ax,w,a⟩:=ah a;have y:=bz (eI .i64) w;simp only[bM]at y;have U:=fE (eI .i64) (x':=b) (fo:=0) (cs:=[.int .i64 b]) w rfl (aki rfl);simp only[bM,Nat.add_zero]at U;have A:=U;simp only[putCells,List.length_cons,List.length_nil,ajf]at A;have V:=Al ([b]);simp only[bk,bM,List.length_cons,ajf]at V;obtain⟨ay,W,a⟩:=ah a;obtain⟨az,X,a⟩:=ah a;obtain⟨aB,Y,a⟩:=ah a;cases a;simp only[dY,seval,l,T,y,A,V,W,X,Y];apply iG;refine⟨f,?_⟩;and_intros<;>first|rfl|(simp only[dY,seval,T]<;>rfl)
  ·cases a;simp only[dY,seval];apply jG;refine⟨rfl,⟨h,?_,?_,?_⟩⟩;all_goals ((simp only[dY,seval,Za]<;>rfl))
 ·rintro x t H e S;rcases aj with⟨i,j⟩;dsimp only at S a;obtain⟨rfl,⟨k,aq⟩⟩:=S;obtain⟨aC,Z,a⟩:=ah a;cases a;simp only[dY,seval,aq,Z]
def oE:=dN (fK (bJ fl) (dy (bJ fl))) (fun x:aF×aF=>tn x.1 x.2) (fun r:aF×Int =>.clean (.tup [.agg [.int .i64 r.1.ak,.sl false false r.1.aa.length (ae (eI .i64) r.1.aa)],.int .i64 r.2])) l d
def sh6 {β:Type} {F:aF×aF->Option β} {R:β->RK} (c:Int) (a:(List Int)) (d:Int) (b:(List Int)):dN (fK (bJ fl) (dy (bJ fl))) F R none [.agg [.int .i64 c,.sl false false a.length (ae (eI .i64) a)],.agg [.int .i64 d,.sl false false b.length (ae (eI .i64) b)]]=(F ((aF.mk c a),(aF.mk d b))).map fun r=>(R r,none):=cn _ _ _ ((aF.mk c a),(aF.mk d b))
def Cf:Env:=(Am.ext (Am.ext (Am.ext bf 61 false fZ) 99 false rA) 100 false mI)
def SY:bI prog Cf:=(((bI.none.add lM false).add DJ false).add tf false)
def gw:=ai @w<|ai @sh3<|ai @fZ.eq_1<|ai @sh5<|ai @rA.eq_1<|ai @sh1<|ai @mI.eq_1<|@Cf.eq_1
def GY:bZ prog 62 oE:=dT SY func62 (by kernel_rfl) (fun _ _=>rfl) (fun _=>by kernel_rfl) ntmps62 results62 rfl fun⟨p,q⟩ r a=>by
 simp only[hZ]at a⊢;unfold tn at a;obtain⟨I,v,a⟩:=ah a;simp only[gw,seval,v];obtain⟨E,w,a⟩:=ah a;refine bS 0 (fun s t H e=>match s with|d=>∃f:Nat,∃g:Nat,∃b:Nat,t 2=.ptr 2 f 0∧t 3=.ptr 3 g 0∧t 4=.ptr 4 b 0∧t 17=.bool d∧H 2=some ⟨f,39,[.int .i64 p.ak,.sl false false p.aa.length (ae (eI .i64) p.aa)],false,false,false⟩∧H 3=some ⟨g,39,[.int .i64 q.ak,.sl false false q.aa.length (ae (eI .i64) q.aa)],false,false,false⟩∧H 4=some ⟨b,39,[.int .i64 0,.sl true true 0 []],false,false,false⟩) (fun s=>s=E) ?_ ?_
 ·rintro d t H e ⟨f,g,b,k⟩ rfl;try dsimp only at a
  simp only[gw,seval,k];apply sp an a<;>intro _ a
  ·cases a;simp only[gw,seval,k]
  ·simp only[gw,seval,k];obtain⟨F,y,a⟩:=ah a;refine aA (fun s t H e=>match s with|(l,m)=>∃h:Nat,t 4=.ptr 4 h 0∧t 6=.sl false false l.length (ae (eI .i64) l)∧t 7=.sl false false m.length (ae (eI .i64) m)∧H 4=some ⟨h,39,[.int .i64 0,.sl true true 0 []],false,false,false⟩) (fun o x t H e=>match o with|i=>x=.exit 0∧∃j:Nat,t 4=.ptr 4 j 0∧t 6=.sl false false i.length (ae (eI .i64) i)∧H 4=some ⟨j,39,[.int .i64 0,.sl true true 0 []],false,false,false⟩) y ?_ ?_ ?_
   ·refine⟨b,?_⟩;and_intros<;>first|rfl|(simp only[gw,seval,k]<;>rfl)
   ·rintro⟨l,m⟩ t H e ⟨h,u⟩ c a;simp only[sn]at a;simp only[gw,seval,u];apply sp an a<;>intro _ a
    ·obtain⟨J,A,a⟩:=ah a;cases a;simp only[gw,seval,u,A];apply iG;refine⟨h,?_⟩;and_intros<;>first|rfl|(simp only[gw,seval,u]<;>rfl)
    ·cases a;simp only[gw,seval];apply jG;refine⟨rfl,⟨h,?_,?_,?_⟩⟩;all_goals ((simp only[gw,seval,u]<;>rfl))
   ·rintro x t H e D;obtain⟨i,rfl⟩:∃z,z=F:=⟨_,rfl⟩;dsimp only at D a;obtain⟨rfl,⟨j,B⟩⟩:=D;obtain⟨K,C,a⟩:=ah a;cases a;simp only[gw,seval,B,C]
 ·clear a;have a:=w;simp only[gw,seval];apply sp aZ a<;>intro _ a
  ·cases a;simp only[gw,seval];rw[aw];refine⟨_,rfl,?_⟩;refine⟨0,0,0,?_,?_,?_,?_,?_,?_,?_⟩;all_goals (rfl)
  ·obtain⟨G,n,a⟩:=ah a;cases a;simp only[gw,seval,n];rw[aw];refine⟨_,rfl,?_⟩;refine⟨0,0,0,?_,?_,?_,?_,?_,?_,?_⟩;all_goals (rfl)
def zp:=dN (fK (jZ (eI .i64)) (dy (jZ (eI .i64)))) (fun x:(List Int)×(List Int)=>xJ x.1 x.2) (fun r:(List Int) =>.clean (.sl false false r.length (ae (eI .i64) r))) l d
def zX:Env:=(Am.ext (Am.ext bf 123 false jN) 126 false kN)
def Pd:bI prog zX:=((bI.none.add pT false).add qN false)
def ew:=ai @w<|ai @sh0<|ai @jN.eq_1<|ai @sh4<|ai @kN.eq_1<|@zX.eq_1
def QC:bZ prog 127 zp:=dT Pd func127 (by kernel_rfl) (fun _ _=>rfl) (fun _=>by kernel_rfl) ntmps127 results127 rfl fun⟨p,q⟩ r a=>by
 simp only[hZ]at a⊢;unfold xJ at a;simp only[ew,seval];obtain⟨I,u,a⟩:=ah a;refine aA (fun s t H e=>match s with|(l,m,f)=>∃d:Nat,t 0=.sl false false p.length (ae (eI .i64) p)∧t 1=.sl false false q.length (ae (eI .i64) q)∧t 5=.buf 5 d 1 0 (f).length∧t 6=.int .i64 l∧t 7=.int .i64 m∧H 5=some ⟨d,3,ae (eI .i64) f,false,true,false⟩) (fun o x t H e=>match o with|g=>x=.exit 0∧∃h:Nat,t 5=.buf 5 h 1 0 (g).length∧H 5=some ⟨h,3,ae (eI .i64) g,false,true,false⟩) u ?_ ?_ ?_
 ·refine⟨1,?_,?_,?_,?_,?_,?_⟩;all_goals (rfl)
 ·rintro⟨l,m,f⟩ t H e ⟨d,n⟩ c a;simp only[DN]at a;simp only[ew,seval,n];obtain⟨J,v,a⟩:=ah a;refine bS 0 (fun s t H e=>match s with|i=>∃b:Nat,t 0=.sl false false p.length (ae (eI .i64) p)∧t 1=.sl false false q.length (ae (eI .i64) q)∧t 5=.buf 5 b 1 0 (f).length∧t 6=.int .i64 l∧t 7=.int .i64 m∧t 22=.bool i∧H 5=some ⟨b,3,ae (eI .i64) f,false,true,false⟩) (fun s=>s=J) ?_ ?_
  ·rintro i t H e ⟨b,j⟩ rfl;try dsimp only at a
   simp only[ew,seval,j];apply sp an a<;>intro _ a
   ·obtain⟨O,w,a⟩:=ah a;obtain⟨P,y,a⟩:=ah a;obtain⟨Q,A,a⟩:=ah a;have K:=Be A;obtain⟨R,B,a⟩:=ah a;obtain⟨C,k,D,E⟩:=iT (eI .i64) B;simp only[bM]at k;obtain⟨S,F,a⟩:=ah a;have L:=va F;cases a;simp only[ew,seval,j,w,y,K,C,k,D,E,L];apply iG;refine⟨e+1,?_⟩;and_intros<;>first|rfl|(simp only[ew,seval,j]<;>rfl)
   ·cases a;simp only[ew,seval];apply jG;refine⟨rfl,⟨b,?_,?_⟩⟩;all_goals ((simp only[ew,seval,j]<;>rfl))
  ·clear a;have a:=v;simp only[ew,seval];apply sp aZ a<;>intro _ a
   ·cases a;simp only[ew,seval];rw[aw];refine⟨_,rfl,?_⟩;refine⟨d,?_⟩;and_intros<;>first|rfl|(simp only[ew,seval,n]<;>rfl)
   ·simp only[ew,seval,n];apply sp aZ a<;>intro _ a
    ·cases a;simp only[ew,seval];rw[aw];refine⟨_,rfl,?_⟩;refine⟨d,?_⟩;and_intros<;>first|rfl|(simp only[ew,seval,n]<;>rfl)
    ·cases a;simp only[ew,seval,n];rw[aw];refine⟨_,rfl,?_⟩;refine⟨d,?_⟩;and_intros<;>first|rfl|(simp only[ew,seval,n]<;>rfl)
 ·rintro x t H e N;obtain⟨g,rfl⟩:∃z,z=I:=⟨_,rfl⟩;dsimp only at N a;obtain⟨rfl,⟨h,M⟩⟩:=N;obtain⟨T,G,a⟩:=ah a;cases a;simp only[ew,seval,M,G]
def ye:=dN (fK (bJ fl) (dy (bJ fl))) (fun x:aF×aF=>qP x.1 x.2) (fun r:aF×aF×Int =>.clean (.tup [.agg [.int .i64 r.1.ak,.sl false false r.1.aa.length (ae (eI .i64) r.1.aa)],.agg [.int .i64 r.2.1.ak,.sl false false r.2.1.aa.length (ae (eI .i64) r.2.1.aa)],.int .i64 r.2.2])) l d
def Tu (a:(List Int)) (b:(List Int)):zp none [.sl false false a.length (ae (eI .i64) a),.sl false false b.length (ae (eI .i64) b)]=(xJ a b).map fun r:(List Int)=>(.clean (.sl false false r.length (ae (eI .i64) r)),none):=cn _ _ _ (a,b)
def Ce:Env:=(Am.ext (Am.ext (Am.ext (Am.ext (Am.ext bf 61 false fZ) 99 false rA) 100 false mI) 125 false pC) 127 false zp)
def SX:bI prog Ce:=(((((bI.none.add lM false).add DJ false).add tf false).add Bk false).add QC false)
def fc:=ai @w<|ai @sh3<|ai @fZ.eq_1<|ai @sh5<|ai @rA.eq_1<|ai @sh1<|ai @mI.eq_1<|ai @pC.eq_1<|@Ce.eq_1
def Tj:bZ prog 104 ye:=dT SX func104 (by kernel_rfl) (fun _ _=>rfl) (fun _=>by kernel_rfl) ntmps104 results104 rfl fun⟨n,o⟩ r a=>by
 simp only[hZ]at a⊢;unfold qP at a;obtain⟨O,A,a⟩:=ah a;simp only[fc,seval,A];obtain⟨G,B,a⟩:=ah a;refine bS 0 (fun s t H e=>match s with|h=>∃b:Nat,∃c:Nat,∃d:Nat,∃f:Nat,t 2=.ptr 2 b 0∧t 3=.ptr 3 c 0∧t 4=.ptr 4 d 0∧t 5=.ptr 5 f 0∧t 16=.bool h∧H 2=some ⟨b,39,[.int .i64 n.ak,.sl false false n.aa.length (ae (eI .i64) n.aa)],false,false,false⟩∧H 3=some ⟨c,39,[.int .i64 o.ak,.sl false false o.aa.length (ae (eI .i64) o.aa)],false,false,false⟩∧H 4=some ⟨d,39,[.int .i64 0,.sl true true 0 []],false,false,false⟩∧H 5=some ⟨f,39,[.int .i64 0,.sl true true 0 []],false,false,false⟩) (fun s=>s=G) ?_ ?_
 ·rintro h t H e ⟨b,c,d,f,g⟩ rfl;try dsimp only at a
  simp only[fc,seval,g];apply sp an a<;>intro _ a
  ·cases a;simp only[fc,seval,g]
  ·simp only[fc,seval,g];apply sp an a<;>intro _ a
   ·cases a;simp only[fc,seval,g]
   ·obtain⟨q,C,a⟩:=ah a;simp only[fc,seval,g,C];obtain⟨I,D,a⟩:=ah a;refine bS 0 (fun s t H e=>match s with|i=>∃j:Nat,∃k:Nat,∃l:Nat,∃m:Nat,t 2=.ptr 2 j 0∧t 3=.ptr 3 k 0∧t 4=.ptr 4 l 0∧t 5=.ptr 5 m 0∧t 7=.sl false false q.1.length (ae (eI .i64) q.1)∧t 8=.sl false false q.2.length (ae (eI .i64) q.2)∧t 42=.bool i∧H 2=some ⟨j,39,[.int .i64 n.ak,.sl false false n.aa.length (ae (eI .i64) n.aa)],false,false,false⟩∧H 3=some ⟨k,39,[.int .i64 o.ak,.sl false false o.aa.length (ae (eI .i64) o.aa)],false,false,false⟩∧H 4=some ⟨l,39,[.int .i64 0,.sl true true 0 []],false,false,false⟩∧H 5=some ⟨m,39,[.int .i64 0,.sl true true 0 []],false,false,false⟩) (fun s=>s=I) ?_ ?_
    ·rintro i t H e ⟨j,k,l,m,p⟩ rfl;try dsimp only at a
     simp only[fc,seval,p];apply sp an a<;>intro _ a
     ·obtain⟨P,E,a⟩:=ah a;obtain⟨Q,F,a⟩:=ah a;simp only[fc,seval,p,E,F];refine bu (by kernel_rfl) ?_;cases a;simp only[seval]
     ·have u:=Tu q.1 ([1]);simp only[bk,bM,List.length_cons,ajf]at u;obtain⟨J,v,a⟩:=ah a;obtain⟨K,w,a⟩:=ah a;obtain⟨L,x,a⟩:=ah a;obtain⟨M,y,a⟩:=ah a;simp only[fc,seval,p,u,v,w,x,y];refine bu (by kernel_rfl) ?_;cases a;simp only[seval]
    ·clear a;have a:=D;simp only[fc,seval];apply sp aZ a<;>intro _ a
     ·cases a;simp only[fc,seval];rw[aw];refine⟨_,rfl,?_⟩;refine⟨b,c,d,f,?_⟩;and_intros<;>first|rfl|(simp only[fc,seval,g]<;>rfl)
     ·cases a;simp only[fc,seval];rw[aw];refine⟨_,rfl,?_⟩;refine⟨b,c,d,f,?_⟩;and_intros<;>first|rfl|(simp only[fc,seval,g]<;>rfl)
 ·clear a;have a:=B;simp only[fc,seval];apply sp aZ a<;>intro _ a
  ·cases a;simp only[fc,seval];rw[aw];refine⟨_,rfl,?_⟩;refine⟨0,0,0,0,?_,?_,?_,?_,?_,?_,?_,?_,?_⟩;all_goals (rfl)
  ·obtain⟨N,z,a⟩:=ah a;cases a;simp only[fc,seval,z];rw[aw];refine⟨_,rfl,?_⟩;refine⟨0,0,0,0,?_,?_,?_,?_,?_,?_,?_,?_,?_⟩;all_goals (rfl)
def yg:=dN (fK (bJ fl) (dy (bJ fl))) (fun x:aF×aF=>yF x.1 x.2) (fun r:al×Int =>.clean (.tup [.agg [.int .i64 r.1.bK.ak,.sl false false r.1.bK.aa.length (ae (eI .i64) r.1.bK.aa),.int .i64 r.1.bL.ak,.sl false false r.1.bL.aa.length (ae (eI .i64) r.1.bL.aa)],.int .i64 r.2])) l d
def Ci:Env:=(Am.ext (Am.ext (Am.ext (Am.ext bf 61 false fZ) 62 false oE) 103 false yf) 104 false ye)
def S1:bI prog Ci:=((((bI.none.add lM false).add GY false).add Tl false).add Tj false)
def fR:=ai @w<|ai @sh3<|ai @fZ.eq_1<|ai @sh6<|ai @oE.eq_1<|ai @yf.eq_1<|ai @ye.eq_1<|@Ci.eq_1
def Tn:bZ prog 65 yg:=dT S1 func65 (by kernel_rfl) (fun _ _=>rfl) (fun _=>by kernel_rfl) ntmps65 results65 rfl fun⟨u,v⟩ r a=>by
 simp only[hZ]at a⊢;unfold yF at a;obtain⟨J,w,a⟩:=ah a;simp only[fR,seval,w];obtain⟨D,x,a⟩:=ah a;refine bS 0 (fun s t H e=>match s with|k=>∃d:Nat,∃f:Nat,∃g:Nat,t 2=.ptr 2 d 0∧t 3=.ptr 3 f 0∧t 4=.ptr 4 g 0∧t 21=.bool k∧H 2=some ⟨d,39,[.int .i64 u.ak,.sl false false u.aa.length (ae (eI .i64) u.aa)],false,false,false⟩∧H 3=some ⟨f,39,[.int .i64 v.ak,.sl false false v.aa.length (ae (eI .i64) v.aa)],false,false,false⟩∧H 4=some ⟨g,41,[.int .i64 0,.sl true true 0 [],.int .i64 0,.sl true true 0 []],false,false,false⟩) (fun s=>s=D) ?_ ?_
 ·rintro k t H e ⟨d,f,g,h⟩ rfl;try dsimp only at a
  simp only[fR,seval,h];apply sp an a<;>intro _ a
  ·cases a;simp only[fR,seval,h]
  ·simp only[fR,seval,h];apply sp an a<;>intro _ a
   ·cases a;simp only[fR,seval,h]
   ·simp only[fR,seval,h];obtain⟨E,y,a⟩:=ah a;refine mn 0 (fun s t H e=>match s with|(i,b,j,c)=>∃l:Nat,∃m:Nat,∃n:Nat,t 2=.ptr 2 l 0∧t 3=.ptr 3 m 0∧t 4=.ptr 4 n 0∧H 2=some ⟨l,39,[.int .i64 i,.sl false false b.length (ae (eI .i64) b)],false,false,false⟩∧H 3=some ⟨m,39,[.int .i64 j,.sl false false c.length (ae (eI .i64) c)],false,false,false⟩∧H 4=some ⟨n,41,[.int .i64 0,.sl true true 0 [],.int .i64 0,.sl true true 0 []],false,false,false⟩) (fun s=>s=E) ?_ ?_
    ·rintro⟨i,b,j,c⟩ t H e ⟨l,m,n,z⟩ rfl;try dsimp only at a
     obtain⟨K,A,a⟩:=ah a;obtain⟨L,B,a⟩:=ah a;obtain⟨M,C,a⟩:=ah a;cases a;simp only[fR,seval,z,A,B,C]
    ·clear a;have a:=y;simp only[fR,seval];apply sp an a<;>intro _ a
     ·obtain⟨F,o,a⟩:=ah a;obtain⟨G,p,a⟩:=ah a;cases a;simp only[fR,seval,h,o,p];rw[aw];refine⟨_,rfl,?_⟩;refine⟨d,f,g,?_⟩;and_intros<;>first|rfl|(simp only[fR,seval,h]<;>rfl)
     ·cases a;simp only[fR,seval];rw[aw];refine⟨_,rfl,?_⟩;refine⟨d,f,g,?_,?_,?_,?_,?_,?_⟩;all_goals ((simp only[fR,seval,h]<;>rfl))
 ·clear a;have a:=x;simp only[fR,seval];apply sp aZ a<;>intro _ a
  ·cases a;simp only[fR,seval];rw[aw];refine⟨_,rfl,?_⟩;refine⟨0,0,0,?_,?_,?_,?_,?_,?_,?_⟩;all_goals (rfl)
  ·obtain⟨I,q,a⟩:=ah a;cases a;simp only[fR,seval,q];rw[aw];refine⟨_,rfl,?_⟩;refine⟨0,0,0,?_,?_,?_,?_,?_,?_,?_⟩;all_goals (rfl)
def wH:=dN (fK (aI .i64) (dy (aI .i64))) (fun x:Int×Int=>An x.1 x.2) (fun r:al×Int =>.clean (.tup [.agg [.int .i64 r.1.bK.ak,.sl false false r.1.bK.aa.length (ae (eI .i64) r.1.bK.aa),.int .i64 r.1.bL.ak,.sl false false r.1.bL.aa.length (ae (eI .i64) r.1.bL.aa)],.int .i64 r.2])) l d
def sh7 {β:Type} {F:Int×Int->Option β} {R:β->RK} (a:Int) (b:Int):dN (fK (aI .i64) (dy (aI .i64))) F R none [.int .i64 a,.int .i64 b]=(F (a,b)).map fun r=>(R r,none):=cn _ _ _ (a,b)
def FT:Env:=(Am.ext (Am.ext bf 64 false rz) 65 false yg)
def Xa:bI prog FT:=((bI.none.add Kw false).add Tn false)
def abA:=ai @w<|ai @sh2<|ai @rz.eq_1<|ai @sh6<|ai @yg.eq_1<|@FT.eq_1
def Kx:bZ prog 35 wH:=dT Xa func35 (by kernel_rfl) (fun _ _=>rfl) (fun _=>by kernel_rfl) ntmps35 results35 rfl fun⟨e,f⟩ r a=>by
 simp only[hZ]at a⊢;unfold An at a;obtain⟨g,b,a⟩:=ah a;obtain⟨h,c,a⟩:=ah a;obtain⟨i,d,a⟩:=ah a;cases a;simp only[abA,seval,b,c,d]
def uK:=dN (fK (aI .i64) (fK (aI .i64) (fK (aI .i64) (dy (aI .i64))))) (fun x:Int×Int×Int×Int=>nU x.1 x.2.1 x.2.2.1 x.2.2.2) (fun r:bV =>.clean (.agg [.int .i64 r.cM,.int .i64 r.jR,.int .i64 r.eo.bK.ak,.sl false false r.eo.bK.aa.length (ae (eI .i64) r.eo.bK.aa),.int .i64 r.eo.bL.ak,.sl false false r.eo.bL.aa.length (ae (eI .i64) r.eo.bL.aa)])) l d
def sh8 {β:Type} {F:Int×Int×Int×Int->Option β} {R:β->RK} (a:Int) (b:Int) (c:Int) (d:Int):dN (fK (aI .i64) (fK (aI .i64) (fK (aI .i64) (dy (aI .i64))))) F R none [.int .i64 a,.int .i64 b,.int .i64 c,.int .i64 d]=(F (a,b,c,d)).map fun r=>(R r,none):=cn _ _ _ (a,b,c,d)
def zR:Env:=(Am.ext bf 35 false wH)
def O6:bI prog zR:=(bI.none.add Kx false)
def Uf:=ai @w<|ai @sh7<|ai @wH.eq_1<|@zR.eq_1
def Qy:bZ prog 16 uK:=dT O6 func16 (by kernel_rfl) (fun _ _=>rfl) (fun _=>by kernel_rfl) ntmps16 results16 rfl fun⟨c,d,e,f⟩ r a=>by
 simp only[hZ]at a⊢;unfold nU at a;obtain⟨g,b,a⟩:=ah a;cases a;simp only[Uf,seval,b]
def oG:=dN (dy (aI .i64)) (fun x:Int=>tr x) (fun r:al =>.clean (.agg [.int .i64 r.bK.ak,.sl false false r.bK.aa.length (ae (eI .i64) r.bK.aa),.int .i64 r.bL.ak,.sl false false r.bL.aa.length (ae (eI .i64) r.bL.aa)])) l d
def Ch:Env:=(Am.ext bf 35 false wH)
def S0:bI prog Ch:=(bI.none.add Kx false)
def Ya:=ai @w<|ai @sh7<|ai @wH.eq_1<|@Ch.eq_1
def G0:bZ prog 10 oG:=dT S0 func10 (by kernel_rfl) (fun _ _=>rfl) (fun _=>by kernel_rfl) ntmps10 results10 rfl fun c r a=>by
 simp only[hZ]at a⊢;unfold tr at a;obtain⟨d,b,a⟩:=ah a;cases a;simp only[Ya,seval,b]
def oD:=dN (dy (jZ (eI .i64))) (fun x:(List Int)=>mh x) (fun r:(List al) =>.clean (.sl false false r.length (ae au r))) l d
def zP:Env:=(Am.ext bf 10 false oG)
def O4:bI prog zP:=(bI.none.add G0 false)
def mW:=ai @w<|ai @sh2<|ai @oG.eq_1<|@zP.eq_1
def DH:bZ prog 17 oD:=dT O4 func17 (by kernel_rfl) (fun _ _=>rfl) (fun _=>by kernel_rfl) ntmps17 results17 rfl fun q r a=>by
 simp only[hZ]at a⊢;unfold mh at a;simp only[mW,seval];obtain⟨B,u,a⟩:=ah a;refine aA (fun s t H e=>match s with|(i,h)=>∃f:Nat,t 0=.sl false false q.length (ae (eI .i64) q)∧t 3=.buf 3 f 4 0 (h).length∧t 4=.int .i64 i∧H 3=some ⟨f,41,ae au h,false,true,false⟩) (fun o x t H e=>match o with|b=>x=.exit 0∧∃d:Nat,t 3=.buf 3 d 4 0 (b).length∧H 3=some ⟨d,41,ae au b,false,true,false⟩) u ?_ ?_ ?_
 ·refine⟨1,?_,?_,?_,?_⟩;all_goals (rfl)
 ·rintro⟨i,h⟩ t H e ⟨f,p⟩ c a;simp only[DA]at a;simp only[mW,seval,p];apply sp an a<;>intro _ a
  ·obtain⟨D,v,a⟩:=ah a;have j:=bz (eI .i64) v;simp only[bM]at j;obtain⟨E,w,a⟩:=ah a;obtain⟨C,k,a⟩:=ah a;obtain⟨l,g,m,n⟩:=iT au k;simp only[bM]at g;cases a;simp only[mW,seval,p,j,w,l,g,m,n];apply iG;refine⟨e+1,?_⟩;and_intros<;>first|rfl|(simp only[mW,seval,p]<;>rfl)
  ·cases a;simp only[mW,seval];apply jG;refine⟨rfl,⟨f,?_,?_⟩⟩;all_goals ((simp only[mW,seval,p]<;>rfl))
 ·rintro x t H e A;obtain⟨b,rfl⟩:∃z,z=B:=⟨_,rfl⟩;dsimp only at A a;obtain⟨rfl,⟨d,y⟩⟩:=A;cases a;simp only[mW,seval,y]
def ef:=dN (fK (aI .i64) (fK (aI .i64) (dy (aI .i64)))) (fun x:Int×Int×Int=>eu x.1 x.2.1 x.2.2) (fun r:Bool =>.clean (.bool r)) l d
def sh9 {β:Type} {F:Int×Int×Int->Option β} {R:β->RK} (a:Int) (b:Int) (c:Int):dN (fK (aI .i64) (fK (aI .i64) (dy (aI .i64)))) F R none [.int .i64 a,.int .i64 b,.int .i64 c]=(F (a,b,c)).map fun r=>(R r,none):=cn _ _ _ (a,b,c)
def kn:bZ prog 40 ef:=dT bI.none func40 (by kernel_rfl) (fun _ _=>rfl) (fun _=>by kernel_rfl) ntmps40 results40 rfl fun⟨b,c,d⟩ r a=>by
 simp only[hZ]at a⊢;unfold eu at a;simp only[w,seval];apply sp fG a<;>intro _ a
 ·cases a;simp only[w,seval]
 ·cases a;simp only[w,seval]
def ey:=dN (dy (bJ fl)) (fun x:aF=>dr x) (fun r:Bool =>.clean (.bool r)) l d
def gK:bZ prog 66 ey:=dT bI.none func66 (by kernel_rfl) (fun _ _=>rfl) (fun _=>by kernel_rfl) ntmps66 results66 rfl fun d r a=>by
 simp only[hZ]at a⊢;unfold dr at a;simp only[w,seval];obtain⟨v,q,a⟩:=ah a;refine aA (fun s t H e=>match s with|h=>∃f:Nat,t 1=.ptr 1 f 0∧t 3=.int .i64 (d.aa.length:Int)∧t 10=.sl false false d.aa.length (ae (eI .i64) d.aa)∧t 11=.int .i64 (d.aa.length:Int)∧t 12=.int .i64 h∧H 1=some ⟨f,39,[.int .i64 d.ak,.sl false false d.aa.length (ae (eI .i64) d.aa)],false,false,false⟩) (fun o x t H e=>match o with|(.inl _)=>x=.exit 0∧∃g:Nat,t 1=.ptr 1 g 0∧t 3=.int .i64 (d.aa.length:Int)∧H 1=some ⟨g,39,[.int .i64 d.ak,.sl false false d.aa.length (ae (eI .i64) d.aa)],false,false,false⟩|(.inr r)=>x=.ret∧gi .clean tab none [.tmp 2] ⟨t,EH H,e⟩=some (.clean (.bool r),none)) q ?_ ?_ ?_
 ·refine⟨0,?_,?_,?_,?_,?_,?_⟩;all_goals (rfl)
 ·rintro h t H e ⟨f,k⟩ c a;simp only[qB]at a;simp only[w,seval,k];apply sp an a<;>intro _ a
  ·obtain⟨B,u,a⟩:=ah a;have l:=bz (eI .i64) u;simp only[bM]at l;simp only[w,seval,k,l];apply sp aZ a<;>intro _ a
   ·cases a;simp only[w,seval];refine tQ ⟨rfl,?_⟩;simp only[w,seval]
   ·simp only[w,seval];apply sp an a<;>intro _ a
    ·cases a;simp only[w,seval];refine tQ ⟨rfl,?_⟩;simp only[w,seval]
    ·cases a;simp only[w,seval,k];apply iG;refine⟨f,?_⟩;and_intros<;>first|rfl|(simp only[w,seval,k]<;>rfl)
  ·cases a;simp only[w,seval];apply jG;refine⟨rfl,⟨f,?_,?_,?_⟩⟩;all_goals ((simp only[w,seval,k]<;>rfl))
 ·rintro x t H e p;rcases v with _|C
  ·dsimp only at p a;obtain⟨rfl,⟨g,b⟩⟩:=p;simp only[w,seval,b];apply sp an a<;>intro _ a
   ·cases a;simp only[w,seval,b]
   ·simp only[w,seval,b];apply sp aZ a<;>intro _ a
    ·obtain⟨y,m,a⟩:=ah a;have i:=bz (eI .i64) m;simp only[bM]at i;cases a;simp only[w,seval,b,i]
    ·simp only[w,seval,b];apply sp fG a<;>intro _ a
     ·obtain⟨z,n,a⟩:=ah a;have j:=bz (eI .i64) n;simp only[bM]at j;cases a;simp only[w,seval,b,j]
     ·cases a;simp only[w,seval]
  ·dsimp only at p a;obtain⟨rfl,A⟩:=p;cases a;simp only[aX,ba,cv,cA];exact A
def l8:=dN (fK ac8 (dy (bJ fl))) (fun x:Bool×aF=>eY x.1 x.2) (fun r:aF×Int =>.clean (.tup [.agg [.int .i64 r.1.ak,.sl false false r.1.aa.length (ae (eI .i64) r.1.aa)],.int .i64 r.2])) l d
def sg:bZ prog 69 l8:=dT bI.none func69 (by kernel_rfl) (fun _ _=>rfl) (fun _=>by kernel_rfl) ntmps69 results69 rfl fun⟨b,c⟩ r a=>by
 simp only[hZ]at a⊢;unfold eY at a;simp only[w,seval];apply sp an a<;>intro _ a
 ·cases a;simp only[w,seval]
 ·cases a;simp only[w,seval]
def Cr (r:(List Int)) (a:dA []=some r):lT (.fresh 3 1) tab bf FU Tryz.f105 none [.sl true true 0 []]=some (.fresh 3 1 r.length (ae (eI .i64) r),none):=by
 unfold dA at a;obtain⟨b,c,d⟩:=Ej a;subst b;apply aJ rfl ntmps105 results105;simp only[w,seval,Nat.lt_irrefl]
def Cs (r:(List Int)) (a:dA []=some r):lT (.fresh 3 1) tab bf FU Tryz.f105 none [.sl true false 0 []]=some (.fresh 3 1 r.length (ae (eI .i64) r),none):=by
 unfold dA at a;obtain⟨b,c,d⟩:=Ej a;subst b;apply aJ rfl ntmps105 results105;simp only[w,seval,Nat.lt_irrefl]
def Ct (a r:(List Int)) (c:0<a.length) (b:dA a=some r):lT (.fresh 3 1) tab bf FU Tryz.f105 none [.sl false false a.length (ae (eI .i64) a)]=some (.fresh 3 1 r.length (ae (eI .i64) r),none):=by
 unfold dA at b;have g:¬a.length=0:=by omega
 obtain⟨d,e,f⟩:=Ej b;subst d;apply aJ rfl ntmps105 results105;simp only[w,seval,c,e,f]
def jv:=dN (dy (jZ (eI .i64))) (fun x:(List Int)=>dA x) (fun r:(List Int) =>.fresh 3 1 r.length (ae (eI .i64) r))
def xG (a:(List Int)):jv none [.sl false false a.length (ae (eI .i64) a)]=(dA a).map fun r:(List Int)=>(.fresh 3 1 r.length (ae (eI .i64) r),none):=cn _ _ _ a
def mD:bZ prog 105 jv:=bZ.afL (mode:=(.fresh 3 1)) tok bI.none mixed func105 (by kernel_rfl) ⟨by kernel_rfl,by kernel_rfl⟩ (aki (by kernel_rfl)) Cr Cs Ct
def sL:=dN (dy (aI .i64)) (fun x:Int=>qX x) (fun r:Bool =>.clean (.bool r)) l d
def Mt:bZ prog 94 sL:=dT bI.none func94 (by kernel_rfl) (fun _ _=>rfl) (fun _=>by kernel_rfl) ntmps94 results94 rfl fun b r a=>by
 simp only[hZ]at a⊢;unfold qX at a;cases a;simp only[w,seval]
def eG:=dN (fK (aI .i64) (dy (aI .i64))) (fun x:Int×Int=>gg x.1 x.2) (fun r:Int =>.clean (.int .i64 r)) l d
def tG:Env:=(Am.ext bf 94 false sL)
def FX:bI prog tG:=(bI.none.add Mt false)
def eQ:=ai @w<|ai @sh2<|ai @sL.eq_1<|@tG.eq_1
def oc:bZ prog 50 eG:=dT FX func50 (by kernel_rfl) (fun _ _=>rfl) (fun _=>by kernel_rfl) ntmps50 results50 rfl fun⟨d,e⟩ r a=>by
 simp only[hZ]at a⊢;unfold gg at a;obtain⟨f,b,a⟩:=ah a;obtain⟨g,c,a⟩:=ah a;simp only[eQ,seval,b,c];apply sp an a<;>intro _ a
 ·simp only[eQ,seval];apply sp an a<;>intro _ a
  ·cases a;simp only[eQ,seval]
  ·cases a;simp only[eQ,seval]
 ·simp only[eQ,seval];apply sp an a<;>intro _ a
  ·cases a;simp only[eQ,seval]
  ·simp only[eQ,seval];apply sp an a<;>intro _ a
   ·cases a;simp only[eQ,seval]
   ·simp only[eQ,seval];apply sp an a<;>intro _ a
    ·cases a;simp only[eQ,seval]
    ·cases a;simp only[eQ,seval]
def gL:=dN (fK (jZ (eI .i64)) (dy (jZ (eI .i64)))) (fun x:(List Int)×(List Int)=>gO x.1 x.2) (fun r:Int =>.clean (.int .i64 r)) l d
def tF:Env:=(Am.ext bf 50 false eG)
def FW:bI prog tF:=(bI.none.add oc false)
def eP:=ai @w<|ai @sh7<|ai @eG.eq_1<|@tF.eq_1
def sh:bZ prog 72 gL:=dT FW func72 (by kernel_rfl) (fun _ _=>rfl) (fun _=>by kernel_rfl) ntmps72 results72 rfl fun⟨l,m⟩ r a=>by
 simp only[hZ]at a⊢;unfold gO at a;simp only[eP,seval];apply sp an a<;>intro _ a
 ·obtain⟨z,n,a⟩:=ah a;cases a;simp only[eP,seval,n]
 ·simp only[eP,seval];obtain⟨q,p,a⟩:=ah a;refine aA (fun s t H e=>match s with|h=>t 0=.sl false false l.length (ae (eI .i64) l)∧t 1=.sl false false m.length (ae (eI .i64) m)∧t 5=.int .i64 h) (fun o x t H e=>match o with|(.inl _)=>x=.exit 0|(.inr r)=>x=.ret∧gi .clean tab none [.tmp 4] ⟨t,EH H,e⟩=some (.clean (.int .i64 r),none)) p ?_ ?_ ?_
  ·refine⟨?_,?_,?_⟩;all_goals (rfl)
  ·rintro h t H e i c a;simp only[nJ]at a;simp only[eP,seval,i];apply sp an a<;>intro _ a
   ·obtain⟨u,f,a⟩:=ah a;have b:=bz (eI .i64) f;simp only[bM]at b;obtain⟨v,g,a⟩:=ah a;have d:=bz (eI .i64) g;simp only[bM]at d;simp only[eP,seval,i,b,d];refine bu (by kernel_rfl) ?_;apply sp an a<;>intro _ a
    ·have b:=bz (eI .i64) f;simp only[bM]at b;have d:=bz (eI .i64) g;simp only[bM]at d;obtain⟨w,j,a⟩:=ah a;simp only[eP,seval,i,b,d,j];refine bu (by kernel_rfl) ?_;cases a;refine tQ ⟨rfl,?_⟩;simp only[eP,seval]
    ·cases a;simp only[eP,seval,i];apply iG;and_intros<;>first|rfl|(simp only[eP,seval,i]<;>rfl)
   ·cases a;simp only[eP,seval];apply jG;exact rfl
  ·rintro x t H e k;rcases q with _|A
   ·dsimp only at k a;subst k;cases a;simp only[eP,seval]
   ·dsimp only at k a;obtain⟨rfl,y⟩:=k;cases a;simp only[aX,ba,cv,cA];exact y
def ia:=dN (dy (jZ (eI .i64))) (fun x:(List Int)=>eK x) (fun r:(List Int) =>.clean (.sl false false r.length (ae (eI .i64) r))) l d
def pS:bZ prog 108 ia:=dT bI.none func108 (by kernel_rfl) (fun _ _=>rfl) (fun _=>by kernel_rfl) ntmps108 results108 rfl fun f r a=>by
 simp only[hZ]at a⊢;unfold eK at a;simp only[w,seval];obtain⟨v,j,a⟩:=ah a;refine aA (fun s t H e=>match s with|g=>t 0=.sl false false f.length (ae (eI .i64) f)∧t 3=.int .i64 g) (fun o x t H e=>match o with|b=>x=.exit 0∧t 0=.sl false false f.length (ae (eI .i64) f)∧t 3=.int .i64 b) j ?_ ?_ ?_
 ·refine⟨?_,?_⟩;all_goals (rfl)
 ·rintro g t H e d c a;simp only[mZ]at a;simp only[w,seval,d];apply sp fG a<;>intro _ a
  ·obtain⟨A,k,a⟩:=ah a;have h:=bz (eI .i64) k;simp only[bM]at h;simp only[w,seval,d,h];apply sp an a<;>intro _ a
   ·cases a;simp only[w,seval,d];apply iG;and_intros<;>first|rfl|(simp only[w,seval,d]<;>rfl)
   ·cases a;simp only[w,seval];apply jG;refine⟨rfl,⟨?_,?_⟩⟩;all_goals ((simp only[w,seval,d]<;>rfl))
  ·cases a;simp only[w,seval];apply jG;refine⟨rfl,⟨?_,?_⟩⟩;all_goals ((simp only[w,seval,d]<;>rfl))
 ·rintro x t H e u;obtain⟨b,rfl⟩:∃z,z=v:=⟨_,rfl⟩;dsimp only at u a;obtain⟨rfl,l⟩:=u;obtain⟨B,m,a⟩:=ah a;obtain⟨n,y,p,q,i⟩:=MO (eI .i64) m;simp only[bM]at i;cases a;simp only[w,seval,l,n,p,q,i]
def uH:=mkE 3 (eI .i64) (as0) (fun (l:(List Int)) (x:Unit)=>eK l)
def MG (b a:List D) (c:(List Int)):uH (some (.buf 0 0 1 b.length c.length,⟨0,3,b++(ae (eI .i64) c++a),false,true,false⟩)) []=(eK c).map fun r=>(.fresh 3 1 r.length (ae (eI .i64) r),none):=aai _ _ _ _ b a c ()
def Mg (b a:List D) (i:(List Int)) (r:(List Int)) (d:eK i=some r):lT (.fresh 3 1) tab bf FU Tryz.f108 (some (.buf 0 0 1 b.length i.length,⟨0,3,b++(ae (eI .i64) i++a),false,true,false⟩)) []=some (.fresh 3 1 r.length (ae (eI .i64) r),none):=by
 apply HQ rfl ntmps108 results108;unfold eK at d;simp only[w,seval];obtain⟨F,q,d⟩:=ah d;refine aA (fun s t H e=>match s with|k=>∃f:Nat,t 0=.buf 0 f 1 b.length (i).length∧t 3=.int .i64 k∧H 0=some ⟨f,3,b++(ae (eI .i64) i++a),false,true,false⟩) (fun o x t H e=>match o with|h=>x=.exit 0∧∃g:Nat,t 0=.buf 0 g 1 b.length (i).length∧t 3=.int .i64 h∧H 0=some ⟨g,3,b++(ae (eI .i64) i++a),false,true,false⟩) q ?_ ?_ ?_
 ·refine⟨0,?_,?_,?_⟩;all_goals (rfl)
 ·rintro k t H e ⟨f,j⟩ c d;simp only[mZ]at d;simp only[w,seval,j];apply sp fG d<;>intro _ d
  ·obtain⟨I,u,d⟩:=ah d;have l:=Pn (pre:=b) (post:=a) (eI .i64) u;simp only[bM]at l;simp only[w,seval,j,l];apply sp an d<;>intro _ d
   ·cases d;simp only[w,seval,j];apply iG;refine⟨f,?_⟩;and_intros<;>first|rfl|(simp only[w,seval,j]<;>rfl)
   ·cases d;simp only[w,seval];apply jG;refine⟨rfl,⟨f,?_,?_,?_⟩⟩;all_goals ((simp only[w,seval,j]<;>rfl))
  ·cases d;simp only[w,seval];apply jG;refine⟨rfl,⟨f,?_,?_,?_⟩⟩;all_goals ((simp only[w,seval,j]<;>rfl))
 ·rintro x t H e E;obtain⟨h,rfl⟩:∃z,z=F:=⟨_,rfl⟩;dsimp only at E d;obtain⟨rfl,⟨g,v⟩⟩:=E;obtain⟨J,m,d⟩:=ah d;obtain⟨y,G,A,B,C⟩:=MO (eI .i64) m;simp only[bM]at C;obtain⟨n,p⟩:=acK (pre:=b) (post:=a) (eI .i64) m;simp only[bM]at n p;cases d;simp only[w,seval,v,y,A,n,p,B]
def Ik:bZ prog 108 uH:=bZ.afJ tok bI.none mixed func108 (by kernel_rfl) ⟨by kernel_rfl,by kernel_rfl⟩ (fun _=>aki (by kernel_rfl)) (fun b a l x r h=>Mg b a l r h)
def sK:=dN (fK (jZ (eI .i64)) (dy (aI .i64))) (fun x:(List Int)×Int=>oJ x.1 x.2) (fun r:(List Int)×Int =>.clean (.tup [.sl false false r.1.length (ae (eI .i64) r.1),.int .i64 r.2])) l d
def xf:Env:=(Am.ext bf 108 false ia)
def LY:bI prog xf:=(bI.none.add pS false)
def ll:=ai @w<|ai @sh0<|ai @ia.eq_1<|@xf.eq_1
def Ms:bZ prog 128 sK:=dT LY func128 (by kernel_rfl) (fun _ _=>rfl) (fun _=>by kernel_rfl) ntmps128 results128 rfl fun⟨D,P⟩ r a=>by
 simp only[hZ]at a⊢;unfold oJ at a;obtain⟨W,E,a⟩:=ah a;obtain⟨F,G,I,m,J⟩:=mk_one (eI .i64) E;simp only[bM]at m;simp only[ll,seval,-Int.reduceToNat,F,G,I,m,J];obtain⟨K,n,a⟩:=ah a;refine aA (fun s t H e=>match s with|(p,q,l)=>∃b:Nat,t 0=.sl false false D.length (ae (eI .i64) D)∧t 1=.int .i64 P∧t 6=.buf 6 b 1 0 (l).length∧t 7=.int .i64 p∧t 8=.int .i64 q∧H 6=some ⟨b,3,ae (eI .i64) l,false,true,false⟩) (fun o x t H e=>match o with|(g,d)=>x=.exit 0∧∃f:Nat,t 6=.buf 6 f 1 0 (d).length∧t 7=.int .i64 g∧H 6=some ⟨f,3,ae (eI .i64) d,false,true,false⟩) n ?_ ?_ ?_
 ·refine⟨1,?_,?_,?_,?_,?_,?_⟩;all_goals (rfl)
 ·rintro⟨p,q,l⟩ t H e ⟨b,C⟩ c a;simp only[qD]at a;simp only[ll,seval,-Int.reduceToNat,C];apply sp an a<;>intro _ a
  ·obtain⟨R,u,a⟩:=ah a;have L:=Ep u;obtain⟨S,v,a⟩:=ah a;have h:=bz (eI .i64) v;simp only[bM]at h;obtain⟨w,y,a⟩:=ah a;have M:=va y;obtain⟨T,i,a⟩:=ah a;have j:=bz (eI .i64) i;simp only[bM]at j;have z:=fE (eI .i64) (x':=w) (fo:=0) (cs:=[.int .i64 w]) i rfl (aki rfl);simp only[bM,Nat.add_zero]at z;have k:=z;simp only[putCells,List.length_cons,List.length_nil,ajf]at k;obtain⟨U,A,a⟩:=ah a;have N:=Be A;cases a;simp only[ll,seval,-Int.reduceToNat,C,L,h,M,j,k,N];apply iG;refine⟨b,?_⟩;and_intros<;>first|rfl|(simp only[ll,seval,-Int.reduceToNat,C]<;>rfl)
  ·cases a;simp only[ll,seval,-Int.reduceToNat];apply jG;refine⟨rfl,⟨b,?_,?_,?_⟩⟩;all_goals ((simp only[ll,seval,-Int.reduceToNat,C]<;>rfl))
 ·rintro x t H e Q;rcases K with⟨g,d⟩;dsimp only at Q a;obtain⟨rfl,⟨f,O⟩⟩:=Q;obtain⟨V,B,a⟩:=ah a;cases a;simp only[ll,seval,-Int.reduceToNat,O,B]
def qW:=dN (fK (jZ (eI .i64)) (dy (jZ (eI .i64)))) (fun x:(List Int)×(List Int)=>qC x.1 x.2) (fun r:(List Int) =>.fresh 3 1 r.length (ae (eI .i64) r)) l d
def Ca:Env:=(Am.ext bf 108 true uH)
def SR:bI prog Ca:=(bI.none.add Ik true)
def gu:=ai @w<|@Ca.eq_1
def GQ:bZ prog 109 qW:=bZ.gZ (mode:=(.fresh 3 1)) tok SR mixed func109 (by kernel_rfl) (fun _ _=>rfl) (fun _=>by kernel_rfl) fun⟨q,u⟩ r a=>by
 replace a:qC q u=some r:=a;apply aJ rfl ntmps109 results109;simp only[hZ];unfold qC at a;obtain⟨x1,Y,a⟩:=ah a;obtain⟨Z,aa,ab,G,ad⟩:=mk_one (eI .i64) Y;simp only[bM]at G;simp only[gu,seval,-Int.reduceToNat,Z,aa,ab,G,ad];obtain⟨ag,I,a⟩:=ah a;refine aA (fun s t H e=>match s with|(b,D)=>∃j:Nat,t 1=.sl false false u.length (ae (eI .i64) u)∧t 5=.buf 5 j 1 0 (D).length∧t 18=.sl false false q.length (ae (eI .i64) q)∧t 19=.int .i64 (q.length:Int)∧t 20=.int .i64 b∧H 5=some ⟨j,3,ae (eI .i64) D,false,true,false⟩) (fun o x t H e=>match o with|d=>x=.exit 0∧∃k:Nat,t 5=.buf 5 k 1 0 (d).length∧H 5=some ⟨k,3,ae (eI .i64) d,false,true,false⟩) I ?_ ?_ ?_
 ·refine⟨1,?_,?_,?_,?_,?_,?_⟩;all_goals (rfl)
 ·rintro⟨b,D⟩ t H e ⟨j,W⟩ c a;simp only[u4]at a;simp only[gu,seval,-Int.reduceToNat,W];apply sp an a<;>intro _ a
  ·obtain⟨E,J,a⟩:=ah a;have w:=bz (eI .i64) J;simp only[bM]at w;simp only[gu,seval,-Int.reduceToNat,W,w];obtain⟨ai,K,a⟩:=ah a;refine aA (fun s t H e=>match s with|(v,y,F)=>∃l:Nat,t 1=.sl false false u.length (ae (eI .i64) u)∧t 5=.buf 5 l 1 0 (F).length∧t 6=.int .i64 b∧t 7=.int .i64 E∧t 8=.int .i64 v∧t 18=.sl false false q.length (ae (eI .i64) q)∧t 19=.int .i64 (q.length:Int)∧t 20=.int .i64 b∧t 25=.sl false false u.length (ae (eI .i64) u)∧t 26=.int .i64 (u.length:Int)∧t 27=.int .i64 y∧H 5=some ⟨l,3,ae (eI .i64) F,false,true,false⟩) (fun o x t H e=>match o with|(f,m)=>x=.exit 2∧∃g:Nat,t 1=.sl false false u.length (ae (eI .i64) u)∧t 5=.buf 5 g 1 0 (m).length∧t 6=.int .i64 b∧t 8=.int .i64 f∧t 18=.sl false false q.length (ae (eI .i64) q)∧t 19=.int .i64 (q.length:Int)∧t 20=.int .i64 b∧H 5=some ⟨g,3,ae (eI .i64) m,false,true,false⟩) K ?_ ?_ ?_
   ·refine⟨j,?_⟩;and_intros<;>first|rfl|(simp only[gu,seval,-Int.reduceToNat,W]<;>rfl)
   ·rintro⟨v,y,F⟩ t H e ⟨l,X⟩ c a;simp only[u5]at a;simp only[gu,seval,-Int.reduceToNat,X];apply sp an a<;>intro _ a
    ·obtain⟨L,M,a⟩:=ah a;have A:=bz (eI .i64) M;simp only[bM]at A;obtain⟨N,n,a⟩:=ah a;have h:=bz (eI .i64) n;simp only[bM]at h;obtain⟨al,O,a⟩:=ah a;have aj:=vQ O;have h:=bz (eI .i64) n;simp only[bM]at h;have P:=fE (eI .i64) (x':=ma .and .i64 (IntKind.i64.wrap ((IntKind.i64.wrap (N+(IntKind.i64.wrap (E*L))))+v)) 1048575) (fo:=0) (cs:=[.int .i64 (ma .and .i64 (IntKind.i64.wrap ((IntKind.i64.wrap (N+(IntKind.i64.wrap (E*L))))+v)) 1048575)]) n rfl (aki rfl);simp only[bM,Nat.add_zero]at P;have B:=P;simp only[putCells,List.length_cons,List.length_nil,ajf]at B;cases a;simp only[gu,seval,-Int.reduceToNat,X,A,aj,h,B];apply iG;refine⟨l,?_⟩;and_intros<;>first|rfl|(simp only[gu,seval,-Int.reduceToNat,X]<;>rfl)
    ·cases a;simp only[gu,seval,-Int.reduceToNat];apply jG;refine⟨rfl,⟨l,?_,?_,?_,?_,?_,?_,?_,?_⟩⟩;all_goals ((simp only[gu,seval,-Int.reduceToNat,X]<;>rfl))
   ·rintro x t H e Q;rcases ai with⟨f,m⟩;dsimp only at Q a;obtain⟨rfl,⟨g,R⟩⟩:=Q;obtain⟨S,p,a⟩:=ah a;have i:=bz (eI .i64) p;simp only[bM]at i;have i:=bz (eI .i64) p;simp only[bM]at i;have T:=fE (eI .i64) (x':=IntKind.i64.wrap (S+f)) (fo:=0) (cs:=[.int .i64 (IntKind.i64.wrap (S+f))]) p rfl (aki rfl);simp only[bM,Nat.add_zero]at T;have C:=T;simp only[putCells,List.length_cons,List.length_nil,ajf]at C;cases a;simp only[gu,seval,-Int.reduceToNat,R,i,C];apply iG;refine⟨g,?_⟩;and_intros<;>first|rfl|(simp only[gu,seval,-Int.reduceToNat,R]<;>rfl)
  ·cases a;simp only[gu,seval,-Int.reduceToNat];apply jG;refine⟨rfl,⟨j,?_,?_⟩⟩;all_goals ((simp only[gu,seval,-Int.reduceToNat,W]<;>rfl))
 ·rintro x t H e Q;obtain⟨d,rfl⟩:∃z,z=ag:=⟨_,rfl⟩;dsimp only at Q a;obtain⟨rfl,⟨k,ak⟩⟩:=Q;have U:=MG [] [] d;simp only[List.nil_append,akr,List.length_nil]at U;obtain⟨ao,V,a⟩:=ah a;cases a;simp only[gu,seval,-Int.reduceToNat,ak,U,V]
def rv:=mkW 3 (eI .i64) (fK (jZ (eI .i64)) (dy (aI .i64))) (fun (l:(List Int)) (x:(List Int)×Int)=>gG l x.1 x.2) (fun r:Int =>.clean (.int .i64 r))
def Hd (b a:List D) (c:(List Int)) (d:(List Int)) (e:Int):rv (some (.buf 0 0 1 b.length c.length,⟨0,3,b++(ae (eI .i64) c++a),false,true,false⟩)) [.sl false false d.length (ae (eI .i64) d),.int .i64 e]=(gG c d e).map fun r=>(.clean (.int .i64 r.2),some ⟨0,3,b++(ae (eI .i64) r.1++a),false,true,false⟩):=aal _ _ _ _ _ b a c (d,e)
def Gk (d a:List D) (L:(List Int)) (l:(List Int)) (A:Int) (r:(List Int)×(Int)) (b:gG L l A=some r):lT .clean tab bf FU Tryz.f129 (some (.buf 0 0 1 d.length L.length,⟨0,3,d++(ae (eI .i64) L++a),false,true,false⟩)) [.sl false false l.length (ae (eI .i64) l),.int .i64 A]=some (.clean (.int .i64 r.2),some ⟨0,3,d++(ae (eI .i64) r.1++a),false,true,false⟩):=by
 apply HQ rfl ntmps129 results129;unfold gG at b;obtain⟨rw,Z,b⟩:=ah b;split at b;rotate_left
 ·cases b
 cases b;rename_i al;replace b:=Z;unfold rF at b;simp only[w,seval,-Int.reduceToNat];obtain⟨o9,aa,b⟩:=ah b;refine aA (fun s t H e=>match s with|(M,j,m)=>t 0=.buf 0 0 1 d.length (m).length∧t 1=.sl false false l.length (ae (eI .i64) l)∧t 2=.int .i64 A∧t 7=.int .i64 M∧t 13=.int .i64 ((L).length:Int)∧t 14=.int .i64 j∧H 0=some ⟨0,3,d++(ae (eI .i64) m++a),false,true,false⟩) (fun o x t H e=>match o with|(B,h)=>x=.exit 0∧t 0=.buf 0 0 1 d.length (h).length∧t 1=.sl false false l.length (ae (eI .i64) l)∧t 2=.int .i64 A∧t 7=.int .i64 B∧H 0=some ⟨0,3,d++(ae (eI .i64) h++a),false,true,false⟩) aa ?_ ?_ ?_
 ·refine⟨?_,?_,?_,?_,?_,?_,?_⟩;all_goals (rfl)
 ·rintro⟨M,j,m⟩ t H e J c b;simp only[mv]at b;simp only[w,seval,-Int.reduceToNat,J];apply sp an b<;>intro _ b
  ·obtain⟨ao,n,b⟩:=ah b;have f:=Pn (pre:=d) (post:=a) (eI .i64) n;simp only[bM]at f;simp only[w,seval,-Int.reduceToNat,J,f];obtain⟨ab,N,b⟩:=ah b;refine mn 0 (fun s t H e=>match s with|p=>t 0=.buf 0 0 1 d.length (m).length∧t 1=.sl false false l.length (ae (eI .i64) l)∧t 2=.int .i64 A∧t 8=.int .i64 j∧t 9=.int .i64 p∧t 13=.int .i64 ((L).length:Int)∧t 14=.int .i64 j∧H 0=some ⟨0,3,d++(ae (eI .i64) m++a),false,true,false⟩) (fun s=>s=ab) ?_ ?_
   ·rintro p t H e O rfl;try dsimp only at b
    have f:=Pn (pre:=d) (post:=a) (eI .i64) n;simp only[bM]at f;have P:=QT (pre:=d) (post:=a) (eI .i64) (y':=ma .and .i64 p 1048575) n;simp only[bM]at P;have C:=P;simp only[putCells,List.length_cons,List.length_nil,ajf]at C;obtain⟨aq,Q,b⟩:=ah b;have ad:=vQ Q;cases b;simp only[w,seval,-Int.reduceToNat,O,f,C,ad];apply iG;and_intros<;>first|rfl|(simp only[w,seval,-Int.reduceToNat,O]<;>rfl)
   ·clear b;have b:=N;simp only[w,seval,-Int.reduceToNat];apply sp an b<;>intro _ b
    ·obtain⟨ar,R,b⟩:=ah b;have E:=bz (eI .i64) R;simp only[bM]at E;cases b;simp only[w,seval,-Int.reduceToNat,J,f,E];rw[aw];refine⟨_,rfl,?_⟩;and_intros<;>first|rfl|(simp only[w,seval,-Int.reduceToNat,J]<;>rfl)
    ·cases b;simp only[w,seval,-Int.reduceToNat];rw[aw];refine⟨_,rfl,?_⟩;and_intros<;>first|rfl|(simp only[w,seval,-Int.reduceToNat,J]<;>rfl)
  ·cases b;simp only[w,seval,-Int.reduceToNat];apply jG;refine⟨rfl,⟨?_,?_,?_,?_,?_⟩⟩;all_goals ((simp only[w,seval,-Int.reduceToNat,J]<;>rfl))
 ·rintro x t H e S;rcases o9 with⟨B,h⟩;dsimp only at S b;obtain⟨rfl,y⟩:=S;simp only[w,seval,-Int.reduceToNat,y];apply sp an b<;>intro _ b
  ·cases b;simp only[w,seval,-Int.reduceToNat,y]
  ·simp only[w,seval,-Int.reduceToNat,y];obtain⟨ag,T,b⟩:=ah b;refine aA (fun s t H e=>match s with|(F,k,q)=>t 0=.buf 0 0 1 d.length (q).length∧t 1=.sl false false l.length (ae (eI .i64) l)∧t 2=.int .i64 A∧t 10=.int .i64 F∧t 48=.int .i64 ((h).length:Int)∧t 49=.int .i64 k∧H 0=some ⟨0,3,d++(ae (eI .i64) q++a),false,true,false⟩) (fun o x t H e=>match o with|u=>x=.exit 2∧t 0=.buf 0 0 1 d.length (u).length∧t 2=.int .i64 A∧H 0=some ⟨0,3,d++(ae (eI .i64) u++a),false,true,false⟩) T ?_ ?_ ?_
   ·and_intros<;>first|rfl|(simp only[w,seval,-Int.reduceToNat,y]<;>rfl)
   ·rintro⟨F,k,q⟩ t H e K c b;simp only[mw]at b;simp only[w,seval,-Int.reduceToNat,K];apply sp an b<;>intro _ b
    ·obtain⟨au,v,b⟩:=ah b;have g:=Pn (pre:=d) (post:=a) (eI .i64) v;simp only[bM]at g;simp only[w,seval,-Int.reduceToNat,K,g];obtain⟨ai,U,b⟩:=ah b;refine mn 0 (fun s t H e=>match s with|i=>t 0=.buf 0 0 1 d.length (q).length∧t 1=.sl false false l.length (ae (eI .i64) l)∧t 2=.int .i64 A∧t 10=.int .i64 i∧t 11=.int .i64 k∧t 48=.int .i64 ((h).length:Int)∧t 49=.int .i64 k∧H 0=some ⟨0,3,d++(ae (eI .i64) q++a),false,true,false⟩) (fun s=>s=ai) ?_ ?_
     ·rintro i t H e V rfl;try dsimp only at b
      have g:=Pn (pre:=d) (post:=a) (eI .i64) v;simp only[bM]at g;have W:=QT (pre:=d) (post:=a) (eI .i64) (y':=ma .and .i64 i 1048575) v;simp only[bM]at W;have G:=W;simp only[putCells,List.length_cons,List.length_nil,ajf]at G;obtain⟨av,X,b⟩:=ah b;have aj:=vQ X;cases b;simp only[w,seval,-Int.reduceToNat,V,g,G,aj];apply iG;and_intros<;>first|rfl|(simp only[w,seval,-Int.reduceToNat,V]<;>rfl)
     ·clear b;have b:=U;simp only[w,seval,-Int.reduceToNat];apply sp an b<;>intro _ b
      ·obtain⟨ax,Y,b⟩:=ah b;have I:=bz (eI .i64) Y;simp only[bM]at I;cases b;simp only[w,seval,-Int.reduceToNat,K,g,I];rw[aw];refine⟨_,rfl,?_⟩;and_intros<;>first|rfl|(simp only[w,seval,-Int.reduceToNat,K]<;>rfl)
      ·cases b;simp only[w,seval,-Int.reduceToNat];rw[aw];refine⟨_,rfl,?_⟩;and_intros<;>first|rfl|(simp only[w,seval,-Int.reduceToNat,K]<;>rfl)
    ·cases b;simp only[w,seval,-Int.reduceToNat];apply jG;refine⟨rfl,⟨?_,?_,?_⟩⟩;all_goals ((simp only[w,seval,-Int.reduceToNat,K]<;>rfl))
   ·rintro x t H e S;obtain⟨u,rfl⟩:∃z,z=ag:=⟨_,rfl⟩;dsimp only at S b;obtain⟨rfl,ak⟩:=S;cases b;simp only[w,seval,-Int.reduceToNat,ak]
def Eb:bZ prog 129 rv:=bZ.afK (mode := .clean) tok bI.none mixed func129 (by kernel_rfl) ⟨by kernel_rfl,by kernel_rfl⟩ (fun _=>aki (by kernel_rfl)) (fun b a l x c r h=>Gk b a l x.1 x.2 (c,r) h)
end Go.Proofs.YtokgehacmjmfkaaGreat.Am
