import Derived.Test.YtobnihfgnbnncaaGreatKe
set_option linter.unusedSimpArgs false
set_option linter.unusedVariables false
set_option linter.defProp false
noncomputable section
open Go.Proofs.Tryz
namespace Go.Proofs.YtobnihfgnbnncaaGreat.Am
open Go.RowKit Go.Proofs.YtobnihfgnbnncaaGreat.P
set_option maxRecDepth 100000
set_option maxHeartbeats 4000000
def iS:Env:=(Am.ext bn 177 false ch)
def vZ:bV prog iS:=(bV.none.add jb false)
def xd:=ai @w<|ai @vnp<|ai @ahv<|ai @ch.eq_1<|@iS.eq_1
def w7 (b a:List D) (e:aG) (f:Int) (r:aG×(Int×Bool)) (c:dt e f=some r):wB tab iS FU Tryz.f137 128 130 5 b.length (b++(aX.cells e++a)) [.int .i64 f]=some (.tup [.int .i64 r.2.1,.bool r.2.2],b++(aX.cells r.1++a)):=by
 apply zg rfl ntmps137 results137;rw[eV];unfold dt at c;obtain⟨g,d,c⟩:=ae c;cases c;simp only[xd,seval,d]
def er:NOk prog 137 fU:=NOk.of tok vZ mixed func137 (by kernel_rfl) ⟨by kernel_rfl,by kernel_rfl⟩ (fun _=>akW (by kernel_rfl)) (fun b a q x c r h=>w7 b a q x (c,r) h)
def kT:=mkE 130 b9 (gh (aI .i64) (dS (aI .i64))) (fun (l:(List fQ)) (x:Int×Int)=>iy l x.1 x.2)
def ua (b a:List D) (c:(List fQ)) (d e:Int):kT (some (.buf 0 0 5 b.length c.length,⟨0,130,b++(al b9 c++a),false,true,false⟩)) [.int .i64 d,.int .i64 e]=(iy c d e).map fun r=>(.fresh 130 5 r.length (al b9 r),none):=abl _ _ _ _ b a c (d,e)
def te:cn prog 138 kT:=ac0 b9 rfl
def vp (l:Option (D×Row)) (d:List D):=eu (gh (bU ah) (dS (bU ah))) (fun x:ak×ak=>qH x.1 x.2) (fun r:ak×Int =>.clean (.tup [.agg [.int .i64 r.1.bQ.aq,.sl false false r.1.bQ.aa.length (al (eI .i64) r.1.bQ.aa),.int .i64 r.1.bX.aq,.sl false false r.1.bX.aa.length (al (eI .i64) r.1.bX.aa)],.int .i64 r.2])) l d
def Ah:Env:=(Am.ext (Am.ext (Am.ext bn 54 false ba) 60 false eJ) 63 false gr)
def PD:bV prog Ah:=(((bV.none.add fh false).add qw false).add tX false)
def km:=ai @w<|ai @kx<|ai @ba.eq_1<|ai @NO<|ai @eJ.eq_1<|ai @gr.eq_1<|@Ah.eq_1
def Q3:cn prog 139 vp:=cn.jx (mode := .clean) tok PD mixed func139 (by kernel_rfl) (fun _ _=>rfl) (fun _=>by kernel_rfl) fun⟨h,i⟩ r a=>by
 replace a:qH h i=some r:=a;apply aK rfl ntmps139 results139;simp only[jy];unfold qH at a;obtain⟨q,j,a⟩:=ae a;simp only[km,seval,j];obtain⟨p,k,a⟩:=ae a;refine cR 0 (fun s t H e=>match s with|g=>∃b:Nat,∃c:Nat,∃d:Nat,t 2=.ptr 2 b 0∧t 3=.ptr 3 c 0∧t 4=.ptr 4 d 0∧t 6=.bool g∧H 2=rV b 41 [sN h.bQ.aq,sI h.bQ.aa,sN h.bX.aq,sI h.bX.aa]∧H 3=rV c 41 [sN i.bQ.aq,sI i.bQ.aa,sN i.bX.aq,sI i.bX.aa]∧H 4=rV d 41 [sN 0,.sl true true 0 [],sN 0,.sl true true 0 []]) (fun s=>s=p) ?_ ?_
 ·rintro g t H e ⟨b,c,d,f⟩ rfl;try dsimp only at a
  simp only[km,seval,f];apply sp ax a<;>intro _ a
  ·cases a;simp only[km,seval,f]
  ·simp only[km,seval,f];apply sp ax a<;>intro _ a
   ·cases a;simp only[km,seval,f]
   ·obtain⟨u,l,a⟩:=ae a;obtain⟨v,m,a⟩:=ae a;obtain⟨w,n,a⟩:=ae a;simp only[km,seval,f,l,m,n];refine bP (by kernel_rfl) ?_;cases a;simp only[seval]
 ·clear a;have a:=k;simp only[km,seval];apply sp bF a<;>intro _ a
  ·cases a;simp only[km,seval];rw[aC];refine⟨_,rfl,?_⟩;refine⟨0,0,0,?_,?_,?_,?_,?_,?_,?_⟩;all_goals (rfl)
  ·obtain⟨x,o,a⟩:=ae a;cases a;simp only[km,seval,o];rw[aC];refine⟨_,rfl,?_⟩;refine⟨0,0,0,?_,?_,?_,?_,?_,?_,?_⟩;all_goals (rfl)
def jO:=IM 128 130 5 aX (dS (aI .i64)) (fun (q:aG) (x:Int)=>eC q x) (fun r:Unit =>.tup [])
def ie:Env:=(Am.ext (Am.ext (Am.rU 137 (0,fU) (Am.ext (Am.ext bn 21 false cX) 29 false nG)) 138 true kT) 139 false vp)
def uY:bV prog ie:=(((bV.rU ((bV.none.add lE false).add D4 false) er.callable er.calls).add te true).add Q3 false)
def bZ:=ai @w<|ai @vnp<|ai @vnl<|ai @Lk<|ai @cX.eq_1<|ai @sa<|ai @nG.eq_1<|ai @vp.eq_1<|@ie.eq_1
def v8 (f g:List D) (R:aG) (S:Int) (r:aG×(Unit)) (a:eC R S=some r):wB tab ie FU Tryz.f86 128 130 5 f.length (f++(aX.cells R++g)) [.int .i64 S]=some (.tup [],f++(aX.cells r.1++g)):=by
 apply zg rfl ntmps86 results86;rw[eV];unfold eC at a;have T:=kj f g R S;simp only[bK]at T;obtain⟨U,C,a⟩:=ae a;have V:bump 0 (1)=some (4*(1)+1):=kV (by omega);simp only[bZ,seval,T,C];apply sp ax a<;>intro _ a
 ·cases a;simp only[bZ,seval]
 ·obtain⟨r5,E,a⟩:=ae a;obtain⟨x6,y,a⟩:=ae a;have A:=bk b9 y;simp only[bK]at A;have B:=ly b9 1 y;have F:=ku b9 1 4 (akW rfl) y;simp only[bK]at B F;obtain⟨P,G,a⟩:=ae a;simp only[bZ,seval,E,A,B,G];refine bP (by kernel_rfl) ?_;have W:=ua [] [] U.1.cz U.2.1 (IntKind.i64.wrap (U.2.1+1));simp only[List.nil_append,ak5,List.length_nil]at W;obtain⟨X,p,a⟩:=ae a;have I:bump (4*(1)+1) (4)=some (4*(4)+1):=kV (by omega);obtain⟨h,q,a⟩:=ae a;simp only[bZ,seval,W,p,q];refine bP (by kernel_rfl) ?_;obtain⟨Y,J,a⟩:=ae a;refine aA (fun s t H e=>match s with|(u,j)=>∃n:Nat,∃i:Nat,t 0=.ptr 0 0 f.length∧t 6=.ptr 6 n 0∧t 57=sN ((X).length:Int)∧t 58=sN u∧H 0=some ⟨0,128,[.nr 130 5 i (f++([sN h.1.bQ.aq,sI h.1.bQ.aa,sN h.1.bX.aq,sI h.1.bX.aa,.nx (j).length (al b9 j)]++g))],false,true,true⟩∧H 6=rV n 41 [sN P.1.bQ.aq,sI P.1.bQ.aa,sN P.1.bX.aq,sI P.1.bX.aa]∧i<=4*e) (fun o x t H e=>match o with|d=>x=.exit 0∧∃k:Nat,t 0=.ptr 0 0 f.length∧H 0=some ⟨0,128,[.nr 130 5 k (f++([sN h.1.bQ.aq,sI h.1.bQ.aa,sN h.1.bX.aq,sI h.1.bX.aa,.nx (d).length (al b9 d)]++g))],false,true,true⟩∧k<=4*e) J ?_ ?_ ?_
  ·refine⟨3,4*(4)+1,?_,?_,?_,?_,?_,?_,?_⟩;all_goals (first|rfl|omega|(simp only[bZ,seval,T,C,V,E,A,B,F,G,W,p,I,q]<;>rfl))
  ·rintro⟨u,j⟩ t H e ⟨n,i,Q⟩ c a;simp only[fF]at a;simp only[bZ,seval,Q];apply sp ax a<;>intro _ a
   ·obtain⟨Z,b,a⟩:=ae a;have m:=bk b9 b;simp only[bK]at m;have v:=ly b9 1 b;have K:=ku b9 1 4 (akW rfl) b;simp only[bK]at v K;obtain⟨l,L,a⟩:=ae a;have m:=bk b9 b;simp only[bK]at m;have M:=ly b9 1 b;have N:=ku b9 1 4 (akW rfl) b;simp only[bK]at M N;have O:=fL b9 (x':=(fQ.mk Z.pR l.1)) (fo:=1) (cs:=[.int .i64 l.1.bQ.aq,.sl false false l.1.bQ.aa.length (al (eI .i64) l.1.bQ.aa),.int .i64 l.1.bX.aq,.sl false false l.1.bX.aa.length (al (eI .i64) l.1.bX.aa)]) b rfl (akW rfl);simp only[bK]at O;have w:=O;simp only[putCells,List.length_cons,List.length_nil,akl,Nat.reduceAdd]at w;simp only[bZ,seval,Q,v,L,m,w];refine bP (by kernel_rfl) ?_;cases a;apply iU;refine⟨n,i,?_,?_,?_,?_,?_,?_,?_⟩;all_goals (first|rfl|omega|(simp only[bZ,seval,Q]<;>rfl))
   ·cases a;simp only[bZ,seval];apply j8;refine⟨rfl,⟨i,?_,?_,?_⟩⟩;all_goals (first|rfl|omega|(simp only[bZ,seval,Q]<;>rfl))
  ·rintro x t H e hx;obtain⟨d,rfl⟩:∃z,z=Y:=⟨_,rfl⟩;dsimp only at hx a;obtain⟨rfl,⟨k,aa⟩⟩:=hx;cases a;simp only[bZ,seval,aa]
def mY:NOk prog 86 jO:=NOk.of tok uY mixed func86 (by kernel_rfl) ⟨by kernel_rfl,by kernel_rfl⟩ (fun _=>akW (by kernel_rfl)) (fun b a q x c r h=>v8 b a q x (c,r) h)
def gD (l:Option (D×Row)) (d:List D):=eu (gh (bU ah) (gh (bU ah) (dS (bU ah)))) (fun x:ak×ak×ak=>jG x.1 x.2.1 x.2.2) (fun r:ak =>.clean (.agg [.int .i64 r.bQ.aq,.sl false false r.bQ.aa.length (al (eI .i64) r.bQ.aa),.int .i64 r.bX.aq,.sl false false r.bX.aa.length (al (eI .i64) r.bX.aa)])) l d
def Yr {β:Type} {F:ak×ak×ak->Option β} {R:β->RK} (g:Int) (a:(List Int)) (h:Int) (b:(List Int)) (i:Int) (c:(List Int)) (j:Int) (d:(List Int)) (k:Int) (e:(List Int)) (l:Int) (f:(List Int)):eu (gh (bU ah) (gh (bU ah) (dS (bU ah)))) F R none [.agg [.int .i64 g,.sl false false a.length (al (eI .i64) a),.int .i64 h,.sl false false b.length (al (eI .i64) b)],.agg [.int .i64 i,.sl false false c.length (al (eI .i64) c),.int .i64 j,.sl false false d.length (al (eI .i64) d)],.agg [.int .i64 k,.sl false false e.length (al (eI .i64) e),.int .i64 l,.sl false false f.length (al (eI .i64) f)]]=(F ((ak.mk (aL.mk g a) (aL.mk h b)),(ak.mk (aL.mk i c) (aL.mk j d)),(ak.mk (aL.mk k e) (aL.mk l f)))).map fun r=>(R r,none):=cD _ _ _ ((ak.mk (aL.mk g a) (aL.mk h b)),(ak.mk (aL.mk i c) (aL.mk j d)),(ak.mk (aL.mk k e) (aL.mk l f)))
def vY:Env:=(Am.ext (Am.ext bn 23 false eQ) 58 false eR)
def IL:bV prog vY:=((bV.none.add qP false).add qQ false)
def NM:=ai @w<|ai @sa<|ai @eQ.eq_1<|ai @eR.eq_1<|@vY.eq_1
def uL:cn prog 76 gD:=cn.jx (mode := .clean) tok IL mixed func76 (by kernel_rfl) (fun _ _=>rfl) (fun _=>by kernel_rfl) fun⟨d,e,f⟩ r a=>by
 replace a:jG d e f=some r:=a;apply aK rfl ntmps76 results76;simp only[jy];unfold jG at a;obtain⟨g,b,a⟩:=ae a;obtain⟨h,c,a⟩:=ae a;cases a;simp only[NM,seval,b,c]
def adj:Y8 prog 179 (130,5,72):=adl
def kO:=IM 128 130 5 aX (gh (aI .i64) (dS (bU ah))) (fun (q:aG) (x:Int×ak)=>fv q x.1 x.2) (fun r:Unit =>.tup [])
def xb (f c:List D) (g:aG) (h:Int) (d:Int) (a:(List Int)) (e:Int) (b:(List Int)):kO 128 130 5 f.length (f++(aX.cells g++c)) [.int .i64 h,.agg [.int .i64 d,.sl false false a.length (al (eI .i64) a),.int .i64 e,.sl false false b.length (al (eI .i64) b)]]=(fv g h (ak.mk (aL.mk d a) (aL.mk e b))).map fun r=>(.tup [],f++(aX.cells r.1++c)):=MN _ _ _ _ _ _ _ f c g (h,(ak.mk (aL.mk d a) (aL.mk e b)))
def jq:Env:=(Am.GF 179 (130,5,72) (Am.rU 137 (0,fU) (Am.ext (Am.ext bn 21 false cX) 76 false gD)))
def wY:bV prog jq:=(bV.GF (bV.rU ((bV.none.add lE false).add uL false) er.callable er.calls) adj)
def jw:=ai @w<|ai @vnp<|ai @vnl<|ai @Lk<|ai @cX.eq_1<|ai @Yr<|ai @gD.eq_1<|@jq.eq_1
def yf (d c:List D) (q:aG) (s:Int) (h:ak) (r:aG×(Unit)) (a:fv q s h=some r):wB tab jq FU Tryz.f140 128 130 5 d.length (d++(aX.cells q++c)) [.int .i64 s,.agg [.int .i64 h.bQ.aq,.sl false false h.bQ.aa.length (al (eI .i64) h.bQ.aa),.int .i64 h.bX.aq,.sl false false h.bX.aa.length (al (eI .i64) h.bX.aa)]]=some (.tup [],d++(aX.cells r.1++c)):=by
 apply zg rfl ntmps140 results140;rw[eV];unfold fv at a;have z:=kj d c q s;simp only[bK]at z;obtain⟨F,t,a⟩:=ae a;have B:bump 0 (2)=some (4*(2)+1):=kV (by omega);simp only[jw,seval,z,t];apply sp ax a<;>intro _ a
 ·obtain⟨C,b,a⟩:=ae a;have e:=bk b9 b;simp only[bK]at e;have j:=ly b9 1 b;have u:=ku b9 1 4 (akW rfl) b;simp only[bK]at j u;obtain⟨G,v,a⟩:=ae a;obtain⟨i,w,a⟩:=ae a;have e:=bk b9 b;simp only[bK]at e;have x:=ly b9 1 b;have y:=ku b9 1 4 (akW rfl) b;simp only[bK]at x y;have k:=fL b9 (x':=(fQ.mk C.pR i)) (fo:=1) (cs:=[.int .i64 i.bQ.aq,.sl false false i.bQ.aa.length (al (eI .i64) i.bQ.aa),.int .i64 i.bX.aq,.sl false false i.bX.aa.length (al (eI .i64) i.bX.aa)]) b rfl (akW rfl);simp only[bK]at k;have f:=k;simp only[putCells,List.length_cons,List.length_nil,akl,Nat.reduceAdd]at f;simp only[jw,seval,j,v,w,e,f];refine bP (by kernel_rfl) ?_;cases a;simp only[jw,seval]
 ·obtain⟨E,l,a⟩:=ae a;obtain⟨m,n,o,p,g⟩:=adk b9 l;simp only[bK]at g;have A:bump (4*(2)+1) (4)=some (4*(4)+1):=kV (by omega);simp only[jw,ne_eq,not_false_eq_true,seval,m,n,o,p,g];refine bP (by kernel_rfl) ?_;cases a;simp only[seval]
def oV:NOk prog 140 kO:=NOk.of tok wY mixed func140 (by kernel_rfl) ⟨by kernel_rfl,by kernel_rfl⟩ (fun _=>akW (by kernel_rfl)) (fun b a q x c r h=>yf b a q x.1 x.2 (c,r) h)
def kP:=IM 128 130 5 aX (gh (aI .i64) (dS (bU nH))) (fun (q:aG) (x:Int×aG)=>fw q x.1 x.2) (fun r:Unit =>.tup [])
def jr:Env:=(Am.rU 140 (0,kO) (Am.ext (Am.rU 137 (0,fU) (Am.ext (Am.ext bn 21 false cX) 76 false gD)) 138 true kT))
def wZ:bV prog jr:=(bV.rU ((bV.rU ((bV.none.add lE false).add uL false) er.callable er.calls).add te true) oV.callable oV.calls)
def cL:=ai @w<|ai @vnp<|ai @vnl<|ai @Lk<|ai @cX.eq_1<|ai @Yr<|ai @gD.eq_1<|@jr.eq_1
def yg (d b:List D) (T:aG) (U:Int) (v:aG) (r:aG×(Unit)) (a:fw T U v=some r):wB tab jr FU Tryz.f87 128 130 5 d.length (d++(aX.cells T++b)) [.int .i64 U,.agg [.int .i64 v.bI.bQ.aq,.sl false false v.bI.bQ.aa.length (al (eI .i64) v.bI.bQ.aa),.int .i64 v.bI.bX.aq,.sl false false v.bI.bX.aa.length (al (eI .i64) v.bI.bX.aa),.sl false false v.cz.length (al b9 v.cz)]]=some (.tup [],d++(aX.cells r.1++b)):=by
 apply zg rfl ntmps87 results87;rw[eV];unfold fw at a;have V:=kj d b T U;simp only[bK]at V;obtain⟨W,G,a⟩:=ae a;have X:bump 0 (2)=some (4*(2)+1):=kV (by omega);simp only[cL,seval,V,G];apply sp ax a<;>intro _ a
 ·cases a;simp only[cL,seval]
 ·obtain⟨R,C,a⟩:=ae a;have E:=bk b9 C;simp only[bK]at E;have F:=ly b9 1 C;have I:=ku b9 1 4 (akW rfl) C;simp only[bK]at F I;have Y:=ua [] [] W.1.cz W.2.1 (IntKind.i64.wrap (W.2.1+1));simp only[List.nil_append,ak5,List.length_nil]at Y;obtain⟨r8,J,a⟩:=ae a;have Z:bump (4*(2)+1) (5)=some (4*(5)+1):=kV (by omega);obtain⟨ag,z,a⟩:=ae a;simp only[cL,seval,E,F,Y,J,z];refine bP (by kernel_rfl) ?_;obtain⟨aa,K,a⟩:=ae a;refine aA (fun s t H e=>match s with|(A,i,j,k,l,f)=>∃w:Nat,∃h:Nat,t 0=.ptr 0 0 d.length∧t 8=.ptr 8 w 0∧t 50=sF b9 v.cz∧t 51=sN (v.cz.length:Int)∧t 52=sN A∧H 0=some ⟨0,128,[.nr 130 5 h (d++([sN i,sI j,sN k,sI l,.nx (f).length (al b9 f)]++b))],false,true,true⟩∧H 8=rV w 41 [sN R.iY.bQ.aq,sI R.iY.bQ.aa,sN R.iY.bX.aq,sI R.iY.bX.aa]∧h<=4*e) (fun o x t H e=>match o with|(n,p,q,u,g)=>x=.exit 0∧∃m:Nat,t 0=.ptr 0 0 d.length∧H 0=some ⟨0,128,[.nr 130 5 m (d++([sN n,sI p,sN q,sI u,.nx (g).length (al b9 g)]++b))],false,true,true⟩∧m<=4*e) K ?_ ?_ ?_
  ·refine⟨4,4*(5)+1,?_,?_,?_,?_,?_,?_,?_,?_⟩;all_goals (first|rfl|omega|(simp only[cL,seval,V,G,X,E,F,I,Y,J,Z,z]<;>rfl))
  ·rintro⟨A,i,j,k,l,f⟩ t H e ⟨w,h,S⟩ c a;simp only[gp]at a;simp only[cL,seval,S];apply sp ax a<;>intro _ a
   ·obtain⟨ab,L,a⟩:=ae a;have B:=bk b9 L;simp only[bK]at B;obtain⟨ah,M,a⟩:=ae a;obtain⟨y,N,a⟩:=ae a;have O:=xb d b (aG.mk (ak.mk (aL.mk i j) (aL.mk k l)) f) ab.pR y.bQ.aq y.bQ.aa y.bX.aq y.bX.aa;simp only[bK]at O;obtain⟨ai,P,a⟩:=ae a;have Q:bump h (e+1+1)=some (4*(e+1+1)+1):=kV (by omega);simp only[cL,seval,S,B,M,N,O,P,Q];refine bP (by kernel_rfl) ?_;cases a;apply iU;refine⟨w,4*(e+1+1)+1,?_,?_,?_,?_,?_,?_,?_,?_⟩;all_goals (first|rfl|omega|(simp only[cL,seval,S]<;>rfl))
   ·cases a;simp only[cL,seval];apply j8;refine⟨rfl,⟨h,?_,?_,?_⟩⟩;all_goals (first|rfl|omega|(simp only[cL,seval,S]<;>rfl))
  ·rintro x t H e hx;rcases aa with⟨n,p,q,u,g⟩;dsimp only at hx a;obtain⟨rfl,⟨m,ad⟩⟩:=hx;cases a;simp only[cL,seval,ad]
def oW:NOk prog 87 kP:=NOk.of tok wZ mixed func87 (by kernel_rfl) ⟨by kernel_rfl,by kernel_rfl⟩ (fun _=>akW (by kernel_rfl)) (fun b a q x c r h=>yg b a q x.1 x.2 (c,r) h)
def vw (l:Option (D×Row)) (d:List D):=eu (gh (bU Bp) (dS (j0 ah))) (fun x:gS×(List ak)=>ky x.1 x.2) (fun r:(List ak)×Int =>.clean (.tup [.sl false false r.1.length (al ah r.1),.int .i64 r.2])) l d
def u9 {C:List (Bool×aG)} {i:Int} {b:aG} (h:P.idx C i=some (false,b)) (a:Int):jO 128 130 5 (i.toNat*bM.size) (al bM C) [.int .i64 a]=(eC b a).map fun r=>(.tup [],al bM (C.set i.toNat (false,r.1))):=V0 oK h (a)
def xa {C:List (Bool×aG)} {i:Int} {g:aG} (h:P.idx C i=some (false,g)) (f:Int) (d:Int) (a:(List Int)) (e:Int) (b:(List Int)) (c:(List fQ)):kP 128 130 5 (i.toNat*bM.size) (al bM C) [.int .i64 f,.agg [.int .i64 d,.sl false false a.length (al (eI .i64) a),.int .i64 e,.sl false false b.length (al (eI .i64) b),.sl false false c.length (al b9 c)]]=(fw g f (aG.mk (ak.mk (aL.mk d a) (aL.mk e b)) c)).map fun r=>(.tup [],al bM (C.set i.toNat (false,r.1))):=V0 oK h (f,(aG.mk (ak.mk (aL.mk d a) (aL.mk e b)) c))
def As:Env:=(Am.rU 87 (0,kP) (Am.rU 86 (5,jO) (Am.ext (Am.ext (Am.BM 75 nF (Am.ext (Am.ext (Am.ext bn 21 false cX) 73 false lh) 74 false nt)) 76 false gD) 85 false ql)))
def PO:bV prog As:=(bV.rU (bV.rU (((bV.BM (((bV.none.add lE false).add BO false).add CV false) rC.callable rC.calls).add uL false).add Hm false) mY.callable mY.calls) oW.callable oW.calls)
def bx:=ai @w<|ai @vnl<|ai @Lk<|ai @cX.eq_1<|ai @RN<|ai @lh.eq_1<|ai @ahs<|ai @nt.eq_1<|ai @tj<|ai @Yr<|ai @gD.eq_1<|ai @ql.eq_1<|@As.eq_1
def Q8:cn prog 41 vw:=cn.jx (mode := .clean) tok PO mixed func41 (by kernel_rfl) (fun _ _=>rfl) (fun _=>by kernel_rfl) fun⟨X,p1⟩ r a=>by
 replace a:ky X p1=some r:=a;apply aK rfl ntmps41 results41;simp only[jy];unfold ky at a;obtain⟨r1,bC,a⟩:=ae a;simp only[bx,seval,bC];obtain⟨o2,bD,a⟩:=ae a;refine cR 0 (fun s t H e=>match s with|Y=>∃L:Nat,t 1=sF ah p1∧t 2=.ptr 2 L 0∧t 14=.bool Y∧H 2=rV L 66 [sN X.aB,sF cq X.bd]) (fun s=>s=o2) ?_ ?_
 ·rintro Y t H e ⟨L,au⟩ rfl;try dsimp only at a
  simp only[bx,seval,au];apply sp ax a<;>intro _ a
  ·cases a;simp only[bx,seval]
  ·obtain⟨r4,bE,a⟩:=ae a;simp only[bx,seval,au,bE];apply sp ax a<;>intro _ a
   ·cases a;simp only[bx,seval]
   ·obtain⟨r6,bG,a⟩:=ae a;have bH:=Kl oK r6;simp only[bx,seval,au,bG,bH];obtain⟨bI,aS,a⟩:=ae a;refine aA (fun s t H e=>match s with|(g,M)=>∃Z:Nat,∃A:Nat,∃m:Nat,t 2=.ptr 2 Z 0∧t 6=.buf 32 A 5 0 (M).length∧t 34=sN ((r6).length:Int)∧t 35=sN g∧H 2=rV Z 66 [sN X.aB,sF cq X.bd]∧H 32=some ⟨A,128,[.nr 130 5 m (al bM M)],false,true,true⟩∧m<=4*e) (fun o x t H e=>match o with|b=>x=.exit 1∧∃aa:Nat,∃u:Nat,∃j:Nat,t 2=.ptr 2 aa 0∧t 6=.buf 32 u 5 0 (b).length∧H 2=rV aa 66 [sN X.aB,sF cq X.bd]∧H 32=some ⟨u,128,[.nr 130 5 j (al bM b)],false,true,true⟩∧j<=4*e) aS ?_ ?_ ?_
    ·refine⟨L,e+1,4*(e+1)+2,?_,?_,?_,?_,?_,?_,?_⟩;all_goals (first|rfl|omega|(simp only[bx,seval,au]<;>rfl))
    ·rintro⟨g,M⟩ t H e ⟨Z,A,m,Zb⟩ c a;simp only[lL]at a;simp only[bx,seval,Zb];apply sp ax a<;>intro _ a
     ·obtain⟨bT,ab,a⟩:=ae a;have ad:=And.intro (s5 ab) (kY bM ab);simp only[bK]at ad;obtain⟨bJ,aU,a⟩:=ae a;have av:P.idx M g=some (false,bJ):=ab.trans (congrArg some (Rc aU));have aV:=u9 av g;simp only[bK]at aV;obtain⟨bL,aW,a⟩:=ae a;have aX:bump m (e+1+1)=some (4*(e+1+1)+1):=kV (by omega);have aw:=agM oK FW FY FX av bL.1;rw[pL]at aw;simp only[bx,seval,Zb,ad,aV,aW,aX,aw];obtain⟨bN,aY,a⟩:=ae a;refine aA (fun s t H e=>match s with|(aQ,B)=>∃ag:Nat,∃C:Nat,∃n:Nat,t 2=.ptr 2 ag 0∧t 6=.buf 32 C 5 0 (B).length∧t 7=sN g∧t 8=sN aQ∧t 34=sN ((r6).length:Int)∧t 35=sN g∧H 2=rV ag 66 [sN X.aB,sF cq X.bd]∧H 32=some ⟨C,128,[.nr 130 5 n (al bM B)],false,true,true⟩∧n<=4*e) (fun o x t H e=>match o with|I=>x=.exit 3∧∃N:Nat,∃v:Nat,∃k:Nat,t 2=.ptr 2 N 0∧t 6=.buf 32 v 5 0 (I).length∧t 34=sN ((r6).length:Int)∧t 35=sN g∧H 2=rV N 66 [sN X.aB,sF cq X.bd]∧H 32=some ⟨v,128,[.nr 130 5 k (al bM I)],false,true,true⟩∧k<=4*e) aY ?_ ?_ ?_
      ·refine⟨Z,A,4*(e+1+1)+1,?_,?_,?_,?_,?_,?_,?_,?_,?_⟩;all_goals (first|rfl|omega|(simp only[bx,seval,Zb]<;>rfl))
      ·rintro⟨aQ,B⟩ t H e ⟨ag,C,n,Zd⟩ c a;simp only[og]at a;simp only[bx,seval,Zd];apply sp ax a<;>intro _ a
       ·obtain⟨bU,ai,a⟩:=ae a;have ay:=And.intro (s5 ai) (kY bM ai);simp only[bK]at ay;obtain⟨bV,aj,a⟩:=ae a;have az:=And.intro (s5 aj) (kY bM aj);simp only[bK]at az;obtain⟨W,aZ,a⟩:=ae a;have aB:P.idx B g=some (true,W):=aj.trans (congrArg some (RS aZ));have aD:=ly bM 0 aB;have a1:=ku bM 0 5 (akW rfl) aB;simp only[bK,Nat.add_zero]at aD a1;obtain⟨bO,a6,a⟩:=ae a;have a7:P.idx B aQ=some (false,bO):=ai.trans (congrArg some (Rc a6));have a8:=xa a7 g W.bI.bQ.aq W.bI.bQ.aa W.bI.bX.aq W.bI.bX.aa W.cz;simp only[bK]at a8;obtain⟨bW,ba,a⟩:=ae a;have bb:bump n (e+1)=some (4*(e+1)+1):=kV (by omega);simp only[bx,seval,ad,Zd,ay,az,aD,a8,ba,bb];refine bP (by kernel_rfl) ?_;cases a;apply iU;refine⟨ag,C,4*(e+1)+1,?_,?_,?_,?_,?_,?_,?_,?_,?_⟩;all_goals (first|rfl|omega|(simp only[bx,seval,Zd]<;>rfl))
       ·cases a;simp only[bx,seval];apply j8;refine⟨rfl,⟨ag,C,n,?_,?_,?_,?_,?_,?_,?_⟩⟩;all_goals (first|rfl|omega|(simp only[bx,seval,Zd]<;>rfl))
      ·rintro x t H e hx;obtain⟨I,rfl⟩:∃z,z=bN:=⟨_,rfl⟩;dsimp only at hx a;obtain⟨rfl,⟨N,v,k,bc⟩⟩:=hx;cases a;simp only[bx,seval,bc];apply iU;refine⟨N,v,k,?_,?_,?_,?_,?_,?_,?_⟩;all_goals (first|rfl|omega|(simp only[bx,seval,bc]<;>rfl))
     ·cases a;simp only[bx,seval];apply j8;refine⟨rfl,⟨Z,A,m,?_,?_,?_,?_,?_⟩⟩;all_goals (first|rfl|omega|(simp only[bx,seval,Zb]<;>rfl))
    ·rintro x t H e hx;obtain⟨b,rfl⟩:∃z,z=bI:=⟨_,rfl⟩;dsimp only at hx a;obtain⟨rfl,⟨aa,u,j,bd⟩⟩:=hx;obtain⟨bX,bf,a⟩:=ae a;obtain⟨bg,bh,bj,aE,bl⟩:=mk_one ah bf;simp only[bK]at aE;simp only[bx,seval,bd,bg,bh,bj,aE,bl];obtain⟨bQ,bm,a⟩:=ae a;refine aA (fun s t H e=>match s with|(D,J)=>∃an:Nat,∃O:Nat,∃w:Nat,t 6=.buf 32 O 5 0 (b).length∧t 9=.buf 9 an 4 0 (J).length∧t 10=sN D∧H 9=rW an 41 (al ah J)∧H 32=some ⟨O,128,[.nr 130 5 w (al bM b)],false,true,true⟩∧w<=4*e) (fun o x t H e=>match o with|ao=>x=.exit 5∧∃aq:Nat,t 9=.buf 9 aq 4 0 (ao).length∧H 9=rW aq 41 (al ah ao)) bm ?_ ?_ ?_
     ·refine⟨e,u,j,?_,?_,?_,?_,?_,?_⟩;all_goals (first|rfl|omega|(simp only[bx,seval,bd]<;>rfl))
     ·rintro⟨D,J⟩ t H e ⟨an,O,w,Ze⟩ c a;simp only[lM]at a;simp only[bx,seval,Ze];apply sp ax a<;>intro _ a
      ·obtain⟨bY,E,a⟩:=ae a;have q:=And.intro (s5 E) (kY bM E);simp only[bK]at q;obtain⟨aR,bn,a⟩:=ae a;have Q:P.idx b D=some (true,aR):=E.trans (congrArg some (RS bn));have aF:=ly bM 0 Q;have aG:=ku bM 0 4 (akW rfl) Q;simp only[bK,Nat.add_zero]at aF aG;obtain⟨bZ,bo,a⟩:=ae a;obtain⟨b1,bp,a⟩:=ae a;simp only[bx,seval,Ze,q,aF,aG,bo,bp];refine bP (by kernel_rfl) ?_;have q:=And.intro (s5 E) (kY bM E);simp only[bK]at q;have aH:=ly bM 4 Q;have bq:=ku bM 4 1 (akW rfl) Q;simp only[bK]at aH bq;simp only[bx,seval,q,aH];obtain⟨bR,br,a⟩:=ae a;refine aA (fun s t H e=>match s with|(aI,R,S,T,U)=>∃ar:Nat,∃F:Nat,∃G:Nat,∃p:Nat,t 6=.buf 32 G 5 0 (b).length∧t 9=.buf 9 ar 4 0 (J).length∧t 10=sN D∧t 11=.ptr 11 F 0∧t 83=sF b9 aR.cz∧t 84=sN (aR.cz.length:Int)∧t 85=sN aI∧H 9=rW ar 41 (al ah J)∧H 11=rV F 41 [sN R,sI S,sN T,sI U]∧H 32=some ⟨G,128,[.nr 130 5 p (al bM b)],false,true,true⟩∧p<=4*e) (fun o x t H e=>match o with|(h,d,i,f)=>x=.exit 7∧∃V:Nat,∃K:Nat,∃y:Nat,∃l:Nat,t 6=.buf 32 y 5 0 (b).length∧t 9=.buf 9 V 4 0 (J).length∧t 10=sN D∧t 11=.ptr 11 K 0∧H 9=rW V 41 (al ah J)∧H 11=rV K 41 [sN h,sI d,sN i,sI f]∧H 32=some ⟨y,128,[.nr 130 5 l (al bM b)],false,true,true⟩∧l<=4*e) br ?_ ?_ ?_
       ·refine⟨an,e+1,O,w,?_,?_,?_,?_,?_,?_,?_,?_,?_,?_,?_⟩;all_goals (first|rfl|omega|(simp only[bx,seval,Ze]<;>rfl))
       ·rintro⟨aI,R,S,T,U⟩ t H e ⟨ar,F,G,p,Zg⟩ c a;simp only[qT]at a;simp only[bx,seval,Zg];apply sp ax a<;>intro _ a
        ·obtain⟨b2,bt,a⟩:=ae a;have aJ:=bk b9 bt;simp only[bK]at aJ;obtain⟨b3,bu,a⟩:=ae a;have aM:=bk ah bu;simp only[bK]at aM;obtain⟨b4,bw,a⟩:=ae a;simp only[bx,seval,Zg,aJ,aM,bw];refine bP (by kernel_rfl) ?_;cases a;apply iU;refine⟨ar,F,G,p,?_,?_,?_,?_,?_,?_,?_,?_,?_,?_,?_⟩;all_goals (first|rfl|omega|(simp only[bx,seval,Zg]<;>rfl))
        ·cases a;simp only[bx,seval];apply j8;refine⟨rfl,⟨ar,F,G,p,?_,?_,?_,?_,?_,?_,?_,?_⟩⟩;all_goals (first|rfl|omega|(simp only[bx,seval,Zg]<;>rfl))
       ·rintro x t H e hx;rcases bR with⟨h,d,i,f⟩;dsimp only at hx a;obtain⟨rfl,⟨V,K,y,l,bz⟩⟩:=hx;obtain⟨b5,aN,a⟩:=ae a;have aO:=bk ah aN;simp only[bK]at aO;have bA:=fL ah (x':=(ak.mk (aL.mk h d) (aL.mk i f))) (fo:=0) (cs:=[.int .i64 h,.sl false false d.length (al (eI .i64) d),.int .i64 i,.sl false false f.length (al (eI .i64) f)]) aN rfl (akW rfl);simp only[bK,Nat.add_zero]at bA;have aP:=bA;simp only[putCells,List.length_cons,List.length_nil,akl,Nat.reduceAdd]at aP;cases a;simp only[bx,seval,q,bz,aO,aP];apply iU;refine⟨V,y,l,?_,?_,?_,?_,?_,?_⟩;all_goals (first|rfl|omega|(simp only[bx,seval,bz]<;>rfl))
      ·cases a;simp only[bx,seval];apply j8;refine⟨rfl,⟨an,?_,?_⟩⟩;all_goals ((simp only[bx,seval,Ze]<;>rfl))
     ·rintro x t H e hx;obtain⟨ao,rfl⟩:∃z,z=bQ:=⟨_,rfl⟩;dsimp only at hx a;obtain⟨rfl,⟨aq,bS⟩⟩:=hx;cases a;simp only[bx,seval,bS]
 ·clear a;have a:=bD;simp only[bx,seval];apply sp bF a<;>intro _ a
  ·cases a;simp only[bx,seval];rw[aC];refine⟨_,rfl,?_⟩;refine⟨0,?_,?_,?_,?_⟩;all_goals (rfl)
  ·obtain⟨b6,bB,a⟩:=ae a;cases a;simp only[bx,seval,bB];rw[aC];refine⟨_,rfl,?_⟩;refine⟨0,?_,?_,?_,?_⟩;all_goals (rfl)
def CH (r:(List ak)) (a:gI []=some r):kD (.fresh 41 4) tab bn FU Tryz.f43 none [.sl true true 0 []]=some (.fresh 41 4 r.length (al ah r),none):=by
 unfold gI at a;obtain⟨b,c,d⟩:=yM a;subst b;apply aK rfl ntmps43 results43;simp only[w,seval,alq]
def CI (r:(List ak)) (a:gI []=some r):kD (.fresh 41 4) tab bn FU Tryz.f43 none [.sl true false 0 []]=some (.fresh 41 4 r.length (al ah r),none):=by
 unfold gI at a;obtain⟨b,c,d⟩:=yM a;subst b;apply aK rfl ntmps43 results43;simp only[w,seval,alq]
def CJ (a r:(List ak)) (c:0<a.length) (b:gI a=some r):kD (.fresh 41 4) tab bn FU Tryz.f43 none [.sl false false a.length (al ah a)]=some (.fresh 41 4 r.length (al ah r),none):=by
 unfold gI at b;have g:¬a.length=0:=by omega
 obtain⟨d,e,f⟩:=yM b;subst d;apply aK rfl ntmps43 results43;simp only[w,seval,c,e,f]
def ss:=eu (dS (j0 ah)) (fun x:(List ak)=>gI x) (fun r:(List ak) =>.fresh 41 4 r.length (al ah r))
def yn (a:(List ak)):ss none [.sl false false a.length (al ah a)]=(gI a).map fun r:(List ak)=>(.fresh 41 4 r.length (al ah r),none):=cD _ _ _ a
def EB:cn prog 43 ss:=cn.aeP (mode:=(.fresh 41 4)) tok bV.none mixed func43 (by kernel_rfl) ⟨by kernel_rfl,by kernel_rfl⟩ (akW (by kernel_rfl)) CH CI CJ
def kd (l:Option (D×Row)) (d:List D):=eu (gh (bU jK) (gh (j0 ah) (gh (aI .i64) (dS (aI .i64))))) (fun x:aT×(List ak)×Int×Int=>lr x.1 x.2.1 x.2.2.1 x.2.2.2) (fun r:ak =>.clean (.agg [.int .i64 r.bQ.aq,.sl false false r.bQ.aa.length (al (eI .i64) r.bQ.aa),.int .i64 r.bX.aq,.sl false false r.bX.aa.length (al (eI .i64) r.bX.aa)])) l d
def adU {β:Type} {F:aT×(List ak)×Int×Int->Option β} {R:β->RK} (a:(List Int)) (b:(List bs)) (c:(List ak)) (d:Int) (e:Int):eu (gh (bU jK) (gh (j0 ah) (gh (aI .i64) (dS (aI .i64))))) F R none [.agg [.sl false false a.length (al (eI .i64) a),.sl false false b.length (al bH b)],.sl false false c.length (al ah c),.int .i64 d,.int .i64 e]=(F ((aT.mk a b),c,d,e)).map fun r=>(R r,none):=cD _ _ _ ((aT.mk a b),c,d,e)
def vS:Env:=(Am.ext (Am.ext bn 57 false kG) 58 false eR)
def IF:bV prog vS:=((bV.none.add AF false).add qQ false)
def NH:=ai @w<|ai @Ll<|ai @kG.eq_1<|ai @sa<|ai @eR.eq_1<|@vS.eq_1
def zQ:cn prog 44 kd:=cn.jx (mode := .clean) tok IF mixed func44 (by kernel_rfl) (fun _ _=>rfl) (fun _=>by kernel_rfl) fun⟨h,i,j,k⟩ r a=>by
 replace a:lr h i j k=some r:=a;apply aK rfl ntmps44 results44;simp only[jy];unfold lr at a;obtain⟨l,d,a⟩:=ae a;have b:=bk (eI .i64) d;simp only[bK]at b;obtain⟨m,e,a⟩:=ae a;obtain⟨n,f,a⟩:=ae a;have c:=bk ah f;simp only[bK]at c;obtain⟨o,g,a⟩:=ae a;simp only[NH,seval,b,e,c,g];refine bP (by kernel_rfl) ?_;cases a;simp only[seval]
def jz (l:Option (D×Row)) (d:List D):=eu (gh (bU jK) (dS (j0 (dU ah)))) (fun x:aT×(List (List ak))=>ey x.1 x.2) (fun r:(List (List ak))×(List ak)×Int =>.clean (.tup [.sl false false r.1.length (al (dU ah) r.1),.sl false false r.2.1.length (al ah r.2.1),.int .i64 r.2.2])) l d
def uv:Env:=(Am.ext (Am.ext (Am.ext (Am.ext (Am.ext (Am.ext (Am.ext (Am.ext bn 26 false AX) 39 false il) 40 false qg) 41 false vw) 42 false oE) 43 false ss) 44 false kd) 45 false iD)
def Gn:bV prog uv:=((((((((bV.none.add Yd false).add wb false).add Hj false).add Q8 false).add EA false).add EB false).add zQ false).add wM false)
def aZ:=ai @w<|ai @RM<|ai @AX.eq_1<|ai @il.eq_1<|ai @Yp<|ai @qg.eq_1<|ai @aht<|ai @vw.eq_1<|ai @oE.eq_1<|ai @yn<|ai @adU<|ai @kd.eq_1<|ai @Yq<|ai @iD.eq_1<|@uv.eq_1
def yk:cn prog 12 jz:=cn.jx (mode := .clean) tok Gn mixed func12 (by kernel_rfl) (fun _ _=>rfl) (fun _=>by kernel_rfl) fun⟨g,p1⟩ r a=>by
 replace a:ey g p1=some r:=a;apply aK rfl ntmps12 results12;simp only[jy];unfold ey at a;obtain⟨r1,aI,a⟩:=ae a;simp only[aZ,seval,aI];apply sp ax a<;>intro _ a
 ·cases a;simp only[aZ,seval]
 ·obtain⟨r3,aJ,a⟩:=ae a;simp only[aZ,seval,aJ];apply sp ax a<;>intro _ a
  ·cases a;simp only[aZ,seval]
  ·obtain⟨r5,aL,a⟩:=ae a;simp only[aZ,seval,aL];apply sp ax a<;>intro _ a
   ·cases a;simp only[aZ,seval]
   ·obtain⟨r7,aM,a⟩:=ae a;obtain⟨r8,aN,a⟩:=ae a;simp only[aZ,seval,aM,aN];refine bP (by kernel_rfl) ?_;apply sp ax a<;>intro _ a
    ·cases a;simp only[aZ,seval]
    ·simp only[aZ,seval];obtain⟨aO,aa,a⟩:=ae a;refine aA (fun s t H e=>match s with|(h,d)=>∃M:Nat,∃C:Nat,t 1=sF (dU ah) p1∧t 2=.ptr 2 M 0∧t 4=.buf 4 C 1 0 (d).length∧t 5=sF ah r8.1∧t 54=sF bH g.an∧t 55=sN (g.an.length:Int)∧t 56=sN h∧H 2=rV M 25 [sI g.av,sF bH g.an]∧H 4=rW C 27 (al (dU ah) d)) (fun o x t H e=>match o with|D=>x=.exit 0∧∃E:Nat,t 4=.buf 4 E 1 0 (D).length∧t 5=sF ah r8.1∧H 4=rW E 27 (al (dU ah) D)) aa ?_ ?_ ?_
     ·refine⟨0,0,?_,?_,?_,?_,?_,?_,?_,?_,?_⟩;all_goals (rfl)
     ·rintro⟨h,d⟩ t H e ⟨M,C,Za⟩ c a;simp only[iG]at a;simp only[aZ,seval,Za];apply sp ax a<;>intro _ a
      ·obtain⟨b,ab,a⟩:=ae a;have N:=bk bH ab;simp only[bK]at N;obtain⟨aS,ad,a⟩:=ae a;have O:=bk (dU ah) ad;simp only[bK]at O;obtain⟨aU,ag,a⟩:=ae a;simp only[aZ,seval,Za,N,O,ag];obtain⟨aP,ai,a⟩:=ae a;refine aA (fun s t H e=>match s with|(P,F)=>∃A:Nat,∃B:Nat,∃i:Nat,∃j:Nat,t 1=sF (dU ah) p1∧t 2=.ptr 2 A 0∧t 4=.buf 4 B 1 0 (d).length∧t 5=sF ah r8.1∧t 12=.ptr 12 i 0∧t 13=.buf 13 j 4 0 (F).length∧t 54=sF bH g.an∧t 55=sN (g.an.length:Int)∧t 56=sN h∧t 68=sF bt b.aw.au∧t 69=sN (b.aw.au.length:Int)∧t 70=sN P∧H 2=rV A 25 [sI g.av,sF bH g.an]∧H 4=rW B 27 (al (dU ah) d)∧H 12=rV i 57 [sF bt b.aw.au,sF eF b.aw.aP,sF (dU ah) b.aw.aM,sF gn b.bq,sI b.aB]∧H 13=rW j 41 (al ah F)) (fun o x t H e=>match o with|f=>x=.exit 2∧∃q:Nat,∃u:Nat,∃l:Nat,∃k:Nat,t 1=sF (dU ah) p1∧t 2=.ptr 2 q 0∧t 4=.buf 4 u 1 0 (d).length∧t 5=sF ah r8.1∧t 12=.ptr 12 l 0∧t 13=.buf 13 k 4 0 (f).length∧t 54=sF bH g.an∧t 55=sN (g.an.length:Int)∧t 56=sN h∧H 2=rV q 25 [sI g.av,sF bH g.an]∧H 4=rW u 27 (al (dU ah) d)∧H 12=rV l 57 [sF bt b.aw.au,sF eF b.aw.aP,sF (dU ah) b.aw.aM,sF gn b.bq,sI b.aB]∧H 13=rW k 41 (al ah f)) ai ?_ ?_ ?_
       ·refine⟨M,C,e+1,e+1+1,?_⟩;and_intros<;>first|rfl|(simp only[aZ,seval,Za]<;>rfl)
       ·rintro⟨P,F⟩ t H e ⟨A,B,i,j,Zd⟩ c a;simp only[jQ]at a;simp only[aZ,seval,Zd];apply sp ax a<;>intro _ a
        ·obtain⟨aV,aj,a⟩:=ae a;have G:=bk bt aj;simp only[bK]at G;simp only[aZ,seval,Zd,G];apply sp ax a<;>intro _ a
         ·obtain⟨aW,an,a⟩:=ae a;have Q:=bk gn an;simp only[bK]at Q;obtain⟨m,ao,a⟩:=ae a;obtain⟨aX,R,a⟩:=ae a;have S:=bk ah R;simp only[bK]at S;have aq:=fL ah (x':=m) (fo:=0) (cs:=[.int .i64 m.bQ.aq,.sl false false m.bQ.aa.length (al (eI .i64) m.bQ.aa),.int .i64 m.bX.aq,.sl false false m.bX.aa.length (al (eI .i64) m.bX.aa)]) R rfl (akW rfl);simp only[bK,Nat.add_zero]at aq;have T:=aq;simp only[putCells,List.length_cons,List.length_nil,akl,Nat.reduceAdd]at T;cases a;simp only[aZ,seval,Zd,G,Q,ao,S,T];apply iU;refine⟨A,B,i,j,?_⟩;and_intros<;>first|rfl|(simp only[aZ,seval,Zd]<;>rfl)
         ·cases a;simp only[aZ,seval,Zd];apply iU;refine⟨A,B,i,j,?_⟩;and_intros<;>first|rfl|(simp only[aZ,seval,Zd]<;>rfl)
        ·cases a;simp only[aZ,seval];apply j8;refine⟨rfl,⟨A,B,i,j,?_,?_,?_,?_,?_,?_,?_,?_,?_,?_,?_,?_,?_⟩⟩;all_goals ((simp only[aZ,seval,Zd]<;>rfl))
       ·rintro x t H e U;obtain⟨f,rfl⟩:∃z,z=aP:=⟨_,rfl⟩;dsimp only at U a;obtain⟨rfl,⟨q,u,l,k,ar⟩⟩:=U;simp only[aZ,seval,ar];obtain⟨aQ,au,a⟩:=ae a;refine aA (fun s t H e=>match s with|(V,I)=>∃J:Nat,∃K:Nat,∃v:Nat,∃w:Nat,∃W:Bool,t 1=sF (dU ah) p1∧t 2=.ptr 2 J 0∧t 4=.buf 4 K 1 0 (d).length∧t 5=sF ah r8.1∧t 13=.buf 13 v 4 0 (f).length∧t 17=.buf 17 w 4 0 (I).length∧t 54=sF bH g.an∧t 55=sN (g.an.length:Int)∧t 56=sN h∧t 97=sF (dU ah) b.aw.aM∧t 98=sN (b.aw.aM.length:Int)∧t 99=sN V∧H 2=rV J 25 [sI g.av,sF bH g.an]∧H 4=rW K 27 (al (dU ah) d)∧H 13=some ⟨v,41,al ah f,W,true,false⟩∧H 17=rW w 41 (al ah I)) (fun o x t H e=>match o with|n=>x=.exit 4∧∃y:Nat,∃L:Nat,∃p:Nat,t 1=sF (dU ah) p1∧t 2=.ptr 2 y 0∧t 4=.buf 4 L 1 0 (d).length∧t 5=sF ah r8.1∧t 17=.buf 17 p 4 0 (n).length∧t 54=sF bH g.an∧t 55=sN (g.an.length:Int)∧t 56=sN h∧H 2=rV y 25 [sI g.av,sF bH g.an]∧H 4=rW L 27 (al (dU ah) d)∧H 17=rW p 41 (al ah n)) au ?_ ?_ ?_
        ·refine⟨q,u,k,e,false,?_⟩;and_intros<;>first|rfl|(simp only[aZ,seval,ar]<;>rfl)
        ·rintro⟨V,I⟩ t H e ⟨J,K,v,w,W,Ze⟩ c a;simp only[jR]at a;simp only[aZ,seval,Ze];apply sp ax a<;>intro _ a
         ·obtain⟨aY,av,a⟩:=ae a;have X:=bk (dU ah) av;simp only[bK]at X;obtain⟨a1,aw,a⟩:=ae a;obtain⟨a6,ay,a⟩:=ae a;obtain⟨az,Y,aB,aC⟩:=jJ ah ay;simp only[bK]at Y;cases a;simp only[aZ,seval,Ze,X,aw,az,Y,aB,aC];apply iU;refine⟨J,K,v,e+1+1,true,?_⟩;and_intros<;>first|rfl|(simp only[aZ,seval,Ze]<;>rfl)
         ·cases a;simp only[aZ,seval];apply j8;refine⟨rfl,⟨J,K,w,?_,?_,?_,?_,?_,?_,?_,?_,?_,?_,?_⟩⟩;all_goals ((simp only[aZ,seval,Ze]<;>rfl))
        ·rintro x t H e U;obtain⟨n,rfl⟩:∃z,z=aQ:=⟨_,rfl⟩;dsimp only at U a;obtain⟨rfl,⟨y,L,p,aD⟩⟩:=U;obtain⟨a7,aE,a⟩:=ae a;obtain⟨aF,Z,aG,aH⟩:=jJ (dU ah) aE;simp only[bK]at Z;cases a;simp only[aZ,seval,aD,aF,Z,aG,aH];apply iU;refine⟨y,e,?_⟩;and_intros<;>first|rfl|(simp only[aZ,seval,aD]<;>rfl)
      ·cases a;simp only[aZ,seval];apply j8;refine⟨rfl,⟨C,?_,?_,?_⟩⟩;all_goals ((simp only[aZ,seval,Za]<;>rfl))
     ·rintro x t H e U;obtain⟨D,rfl⟩:∃z,z=aO:=⟨_,rfl⟩;dsimp only at U a;obtain⟨rfl,⟨E,aR⟩⟩:=U;cases a;simp only[aZ,seval,aR]
def nk (l:Option (D×Row)) (d:List D):=eu (dS (bU ah)) (fun x:ak=>qq x) (fun r:Bool =>.clean (.bool r)) l d
def q9:Env:=(Am.ext bn 54 false ba)
def Cz:bV prog q9:=(bV.none.add fh false)
def EI:=ai @w<|ai @kx<|ai @ba.eq_1<|@q9.eq_1
def CO:cn prog 53 nk:=cn.jx (mode := .clean) tok Cz mixed func53 (by kernel_rfl) (fun _ _=>rfl) (fun _=>by kernel_rfl) fun c r a=>by
 replace a:qq c=some r:=a;apply aK rfl ntmps53 results53;simp only[jy];unfold qq at a;obtain⟨d,b,a⟩:=ae a;cases a;simp only[EI,seval,b]
def ef (l:Option (D×Row)) (d:List D):=eu (gh (j0 ah) (dS (NN 53))) (fun x:(List ak)×Unit=>eP x.1) (fun r:Int =>.clean (.int .i64 r)) l d
def adV {β:Type} {F:(List ak)×Unit->Option β} {R:β->RK} (a:(List ak)):eu (gh (j0 ah) (dS (NN 53))) F R none [.sl false false a.length (al ah a),.fn 53]=(F (a,())).map fun r=>(R r,none):=cD _ _ _ (a,())
def fX:Env:=(Am.ext bn 53 false nk)
def ov:bV prog fX:=(bV.none.add CO false)
def bC:=ai @w<|ai @kx<|ai @nk.eq_1<|@fX.eq_1
def ox:cn prog 102 ef:=cn.jx (mode := .clean) tok ov mixed func102 (by kernel_rfl) (fun _ _=>rfl) (fun _=>by kernel_rfl) fun⟨h,_⟩ r a=>by
 replace a:eP h=some r:=a;apply aK rfl ntmps102 results102;simp only[jy];unfold eP at a;simp only[bC,seval];obtain⟨l,i,a⟩:=ae a;refine aA (fun s t H e=>match s with|b=>t 0=sF ah h∧t 1=.fn 53∧t 7=sN (h.length:Int)∧t 8=sN b) (fun o x t H e=>match o with|(.inl _)=>x=.exit 0|(.inr r)=>x=.ret∧gu .clean tab none [.tmp 4] ⟨t,EH H,e⟩=some (.clean (.int .i64 r),none)) i ?_ ?_ ?_
 ·refine⟨?_,?_,?_,?_⟩;all_goals (rfl)
 ·rintro b t H e f c a;simp only[iW]at a;simp only[bC,seval,f];apply sp ax a<;>intro _ a
  ·obtain⟨n,j,a⟩:=ae a;have d:=bk ah j;simp only[bK]at d;obtain⟨p,k,a⟩:=ae a;simp only[bC,seval,f,d,k];apply sp ax a<;>intro _ a
   ·cases a;simp only[bC,seval];refine tD ⟨rfl,?_⟩;simp only[bC,seval]
   ·cases a;simp only[bC,seval,f];apply iU;and_intros<;>first|rfl|(simp only[bC,seval,f]<;>rfl)
  ·cases a;simp only[bC,seval];apply j8;exact rfl
 ·rintro x t H e g;rcases l with _|q
  ·dsimp only at g a;subst g;cases a;simp only[bC,seval]
  ·dsimp only at g a;obtain⟨rfl,m⟩:=g;cases a;simp only[aY,bc,cA,cI];exact m
def dz (l:Option (D×Row)) (d:List D):=eu (gh (j0 ah) (dS (NN 53))) (fun x:(List ak)×Unit=>dV x.1) (fun r:Bool =>.clean (.bool r)) l d
def fe:Env:=(Am.ext bn 102 false ef)
def mG:bV prog fe:=(bV.none.add ox false)
def ng:=ai @w<|ai @adV<|ai @ef.eq_1<|@fe.eq_1
def mJ:cn prog 52 dz:=cn.jx (mode := .clean) tok mG mixed func52 (by kernel_rfl) (fun _ _=>rfl) (fun _=>by kernel_rfl) fun⟨c,_⟩ r a=>by
 replace a:dV c=some r:=a;apply aK rfl ntmps52 results52;simp only[jy];unfold dV at a;obtain⟨d,b,a⟩:=ae a;cases a;simp only[ng,seval,b]
def qf (l:Option (D×Row)) (d:List D):=eu (gh (bU jK) (dS (j0 ah))) (fun x:aT×(List ak)=>tM x.1 x.2) (fun r:(List ak) =>.clean (.sl false false r.length (al ah r))) l d
def ahw {β:Type} {F:aT×(List ak)->Option β} {R:β->RK} (a:(List Int)) (b:(List bs)) (c:(List ak)):eu (gh (bU jK) (dS (j0 ah))) F R none [.agg [.sl false false a.length (al (eI .i64) a),.sl false false b.length (al bH b)],.sl false false c.length (al ah c)]=(F ((aT.mk a b),c)).map fun r=>(R r,none):=cD _ _ _ ((aT.mk a b),c)
def uw:Env:=(Am.ext (Am.ext (Am.ext (Am.ext bn 39 false il) 44 false kd) 52 false dz) 55 false fV)
def Gp:bV prog uw:=((((bV.none.add wb false).add zQ false).add mJ false).add iL false)
def bg:=ai @w<|ai @RM<|ai @il.eq_1<|ai @adU<|ai @kd.eq_1<|ai @adV<|ai @dz.eq_1<|ai @dB<|@uw.eq_1
def Hi:cn prog 16 qf:=cn.jx (mode := .clean) tok Gp mixed func16 (by kernel_rfl) (fun _ _=>rfl) (fun _=>by kernel_rfl) fun⟨d,O⟩ r a=>by
 replace a:tM d O=some r:=a;apply aK rfl ntmps16 results16;simp only[jy];unfold tM at a;obtain⟨r1,au,a⟩:=ae a;simp only[bg,seval,au];obtain⟨o2,av,a⟩:=ae a;refine cR 0 (fun s t H e=>match s with|q=>∃h:Nat,t 1=sF ah O∧t 2=.ptr 2 h 0∧t 33=.bool q∧H 2=rV h 25 [sI d.av,sF bH d.an]) (fun s=>s=o2) ?_ ?_
 ·rintro q t H e ⟨h,P⟩ rfl;try dsimp only at a
  simp only[bg,seval,P];apply sp ax a<;>intro _ a
  ·cases a;simp only[bg,seval]
  ·obtain⟨r4,aw,a⟩:=ae a;simp only[bg,seval,P,aw];obtain⟨ay,S,a⟩:=ae a;refine aA (fun s t H e=>match s with|(i,Q)=>∃u:Nat,∃v:Nat,t 1=sF ah O∧t 2=.ptr 2 u 0∧t 7=.buf 7 v 1 0 (Q).length∧t 38=sF bH d.an∧t 39=sN (d.an.length:Int)∧t 40=sN i∧H 2=rV u 25 [sI d.av,sF bH d.an]∧H 7=rW v 3 (al (eI .i64) Q)) (fun o x t H e=>match o with|b=>x=.exit 0∧∃j:Nat,∃k:Nat,t 1=sF ah O∧t 2=.ptr 2 j 0∧t 7=.buf 7 k 1 0 (b).length∧H 2=rV j 25 [sI d.av,sF bH d.an]∧H 7=rW k 3 (al (eI .i64) b)) S ?_ ?_ ?_
   ·refine⟨h,e,?_⟩;and_intros<;>first|rfl|(simp only[bg,seval,P]<;>rfl)
   ·rintro⟨i,Q⟩ t H e ⟨u,v,Zb⟩ c a;simp only[xp]at a;simp only[bg,seval,Zb];apply sp ax a<;>intro _ a
    ·obtain⟨T,U,a⟩:=ae a;have F:=bk bH U;simp only[bK]at F;simp only[bg,seval,Zb,F];obtain⟨az,V,a⟩:=ae a;refine aA (fun s t H e=>match s with|(G,R)=>∃w:Nat,∃y:Nat,t 1=sF ah O∧t 2=.ptr 2 w 0∧t 7=.buf 7 y 1 0 (R).length∧t 38=sF bH d.an∧t 39=sN (d.an.length:Int)∧t 40=sN i∧t 45=sF gn T.bq∧t 46=sN (T.bq.length:Int)∧t 47=sN G∧H 2=rV w 25 [sI d.av,sF bH d.an]∧H 7=rW y 3 (al (eI .i64) R)) (fun o x t H e=>match o with|A=>x=.exit 2∧∃l:Nat,∃m:Nat,t 1=sF ah O∧t 2=.ptr 2 l 0∧t 7=.buf 7 m 1 0 (A).length∧t 38=sF bH d.an∧t 39=sN (d.an.length:Int)∧t 40=sN i∧H 2=rV l 25 [sI d.av,sF bH d.an]∧H 7=rW m 3 (al (eI .i64) A)) V ?_ ?_ ?_
     ·refine⟨u,v,?_⟩;and_intros<;>first|rfl|(simp only[bg,seval,Zb]<;>rfl)
     ·rintro⟨G,R⟩ t H e ⟨w,y,Zd⟩ c a;simp only[xq]at a;simp only[bg,seval,Zd];apply sp ax a<;>intro _ a
      ·obtain⟨W,X,a⟩:=ae a;have I:=bk gn X;simp only[bK]at I;obtain⟨Y,B,a⟩:=ae a;have n:=bk (eI .i64) B;simp only[bK]at n;have n:=bk (eI .i64) B;simp only[bK]at n;have Z:=fL (eI .i64) (x':=IntKind.i64.wrap (Y-W.aR)) (fo:=0) (cs:=[.int .i64 (IntKind.i64.wrap (Y-W.aR))]) B rfl (akW rfl);simp only[bK,Nat.add_zero]at Z;have J:=Z;simp only[putCells,List.length_cons,List.length_nil,akl]at J;simp only[bg,seval,Zd,I,n,J];refine bP (by kernel_rfl) ?_;cases a;apply iU;refine⟨w,y,?_⟩;and_intros<;>first|rfl|(simp only[bg,seval,Zd]<;>rfl)
      ·cases a;simp only[bg,seval];apply j8;refine⟨rfl,⟨w,y,?_,?_,?_,?_,?_,?_,?_,?_⟩⟩;all_goals ((simp only[bg,seval,Zd]<;>rfl))
     ·rintro x t H e K;obtain⟨A,rfl⟩:∃z,z=az:=⟨_,rfl⟩;dsimp only at K a;obtain⟨rfl,⟨l,m,aa⟩⟩:=K;cases a;simp only[bg,seval,aa];apply iU;refine⟨l,m,?_⟩;and_intros<;>first|rfl|(simp only[bg,seval,aa]<;>rfl)
    ·cases a;simp only[bg,seval];apply j8;refine⟨rfl,⟨u,v,?_,?_,?_,?_,?_⟩⟩;all_goals ((simp only[bg,seval,Zb]<;>rfl))
   ·rintro x t H e K;obtain⟨b,rfl⟩:∃z,z=ay:=⟨_,rfl⟩;dsimp only at K a;obtain⟨rfl,⟨j,k,ab⟩⟩:=K;simp only[bg,seval,ab];obtain⟨aB,ad,a⟩:=ae a;refine aA (fun s t H e=>match s with|(L,C)=>∃D:Nat,∃E:Nat,∃p:Nat,t 1=sF ah O∧t 2=.ptr 2 D 0∧t 12=.buf 12 p 4 0 (C).length∧t 62=.buf 7 E 1 0 (b).length∧t 63=sN ((b).length:Int)∧t 64=sN L∧H 2=rV D 25 [sI d.av,sF bH d.an]∧H 7=rW E 3 (al (eI .i64) b)∧H 12=rW p 41 (al ah C)) (fun o x t H e=>match o with|f=>x=.exit 4∧∃g:Nat,t 12=.buf 12 g 4 0 (f).length∧H 12=rW g 41 (al ah f)) ad ?_ ?_ ?_
    ·refine⟨j,k,e,?_⟩;and_intros<;>first|rfl|(simp only[bg,seval,ab]<;>rfl)
    ·rintro⟨L,C⟩ t H e ⟨D,E,p,Ze⟩ c a;simp only[xr]at a;simp only[bg,seval,Ze];apply sp ax a<;>intro _ a
     ·obtain⟨aE,ag,a⟩:=ae a;have M:=bk (eI .i64) ag;simp only[bK]at M;obtain⟨aF,ai,a⟩:=ae a;obtain⟨aG,aj,a⟩:=ae a;obtain⟨an,N,ao,aq⟩:=jJ ah aj;simp only[bK]at N;cases a;simp only[bg,seval,Ze,M,ai,an,N,ao,aq];apply iU;refine⟨D,E,e+1+1,?_⟩;and_intros<;>first|rfl|(simp only[bg,seval,Ze]<;>rfl)
     ·cases a;simp only[bg,seval];apply j8;refine⟨rfl,⟨p,?_,?_⟩⟩;all_goals ((simp only[bg,seval,Ze]<;>rfl))
    ·rintro x t H e K;obtain⟨f,rfl⟩:∃z,z=aB:=⟨_,rfl⟩;dsimp only at K a;obtain⟨rfl,⟨g,aD⟩⟩:=K;cases a;simp only[bg,seval,aD]
 ·clear a;have a:=av;simp only[bg,seval];apply sp bF a<;>intro _ a
  ·cases a;simp only[bg,seval];rw[aC];refine⟨_,rfl,?_⟩;refine⟨0,?_,?_,?_,?_⟩;all_goals (rfl)
  ·simp only[bg,seval];apply sp bF a<;>intro _ a
   ·cases a;simp only[bg,seval];rw[aC];refine⟨_,rfl,?_⟩;refine⟨0,?_,?_,?_,?_⟩;all_goals (rfl)
   ·obtain⟨aH,ar,a⟩:=ae a;cases a;simp only[bg,seval,ar];rw[aC];refine⟨_,rfl,?_⟩;refine⟨0,?_,?_,?_,?_⟩;all_goals (rfl)
def qn (l:Option (D×Row)) (d:List D):=eu (gh (bU jI) (dS (bU jI))) (fun x:aL×aL=>lH x.1 x.2) (fun r:Bool =>.clean (.bool r)) l d
def Hq:cn prog 101 qn:=cn.jx (mode := .clean) tok bV.none mixed func101 (by kernel_rfl) (fun _ _=>rfl) (fun _=>by kernel_rfl) fun⟨j,k⟩ r a=>by
 replace a:lH j k=some r:=a;apply aK rfl ntmps101 results101;simp only[jy];unfold lH at a;simp only[w,seval];obtain⟨A,v,a⟩:=ae a;refine cR 0 (fun s t H e=>match s with|f=>∃b:Nat,∃d:Nat,t 2=.ptr 2 b 0∧t 3=.ptr 3 d 0∧t 19=.bool f∧H 2=rV b 39 [sN j.aq,sI j.aa]∧H 3=rV d 39 [sN k.aq,sI k.aa]) (fun s=>s=A) ?_ ?_
 ·rintro f t H e ⟨b,d,l⟩ rfl;try dsimp only at a
  simp only[w,seval,l];apply sp ax a<;>intro _ a
  ·cases a;simp only[w,seval]
  ·simp only[w,seval];obtain⟨B,y,a⟩:=ae a;refine aA (fun s t H e=>match s with|m=>∃g:Nat,∃h:Nat,t 2=.ptr 2 g 0∧t 3=.ptr 3 h 0∧t 5=sN m∧H 2=rV g 39 [sN j.aq,sI j.aa]∧H 3=rV h 39 [sN k.aq,sI k.aa]) (fun o x t H e=>match o with|(.inl _)=>x=.exit 0|(.inr r)=>x=.ret∧gu .clean tab none [.tmp 4] ⟨t,EH H,e⟩=some (.clean (.bool r),none)) y ?_ ?_ ?_
   ·refine⟨b,d,?_⟩;and_intros<;>first|rfl|(simp only[w,seval,l]<;>rfl)
   ·rintro m t H e ⟨g,h,q⟩ c a;simp only[o0]at a;simp only[w,seval,q];apply sp ax a<;>intro _ a
    ·obtain⟨E,z,a⟩:=ae a;have n:=bk (eI .i64) z;simp only[bK]at n;obtain⟨C,p,a⟩:=ae a;have i:=bk (eI .i64) p;simp only[bK]at i;simp only[w,seval,q,n,i];refine bP (by kernel_rfl) ?_;apply sp ax a<;>intro _ a
     ·cases a;simp only[w,seval];refine tD ⟨rfl,?_⟩;simp only[w,seval]
     ·cases a;simp only[w,seval,q];apply iU;refine⟨g,h,?_⟩;and_intros<;>first|rfl|(simp only[w,seval,q]<;>rfl)
    ·cases a;simp only[w,seval];apply j8;exact rfl
   ·rintro x t H e u;rcases B with _|F
    ·dsimp only at u a;subst u;cases a;simp only[w,seval]
    ·dsimp only at u a;obtain⟨rfl,D⟩:=u;cases a;simp only[aY,bc,cA,cI];exact D
 ·clear a;have a:=v;simp only[w,seval];apply sp bF a<;>intro _ a
  ·cases a;simp only[w,seval];rw[aC];refine⟨_,rfl,?_⟩;refine⟨0,0,?_,?_,?_,?_,?_⟩;all_goals (rfl)
  ·cases a;simp only[w,seval];rw[aC];refine⟨_,rfl,?_⟩;refine⟨0,0,?_,?_,?_,?_,?_⟩;all_goals (rfl)
def vv (l:Option (D×Row)) (d:List D):=eu (gh (bU ah) (dS (bU ah))) (fun x:ak×ak=>tl x.1 x.2) (fun r:Bool =>.clean (.bool r)) l d
def Aq:Env:=(Am.ext bn 101 false qn)
def PM:bV prog Aq:=(bV.none.add Hq false)
def AT:=ai @w<|ai @NO<|ai @qn.eq_1<|@Aq.eq_1
def Q7:cn prog 51 vv:=cn.jx (mode := .clean) tok PM mixed func51 (by kernel_rfl) (fun _ _=>rfl) (fun _=>by kernel_rfl) fun⟨d,e⟩ r a=>by
 replace a:tl d e=some r:=a;apply aK rfl ntmps51 results51;simp only[jy];unfold tl at a;obtain⟨f,b,a⟩:=ae a;simp only[AT,seval,b];apply sp ik a<;>intro _ a
 ·obtain⟨g,c,a⟩:=ae a;cases a;simp only[AT,seval,c]
 ·cases a;simp only[AT,seval]
def pF (l:Option (D×Row)) (d:List D):=eu (gh (j0 ah) (dS (j0 ah))) (fun x:(List ak)×(List ak)=>nf x.1 x.2) (fun r:Bool =>.clean (.bool r)) l d
def Ar:Env:=(Am.ext bn 51 false vv)
def PN:bV prog Ar:=(bV.none.add Q7 false)
def iR:=ai @w<|ai @sa<|ai @vv.eq_1<|@Ar.eq_1
def D5:cn prog 15 pF:=cn.jx (mode := .clean) tok PN mixed func15 (by kernel_rfl) (fun _ _=>rfl) (fun _=>by kernel_rfl) fun⟨m,n⟩ r a=>by
 replace a:nf m n=some r:=a;apply aK rfl ntmps15 results15;simp only[jy];unfold nf at a;simp only[iR,seval];apply sp ax a<;>intro _ a
 ·cases a;simp only[iR,seval]
 ·simp only[iR,seval];obtain⟨p,k,a⟩:=ae a;refine aA (fun s t H e=>match s with|d=>t 0=sF ah m∧t 1=sF ah n∧t 5=sN d) (fun o x t H e=>match o with|(.inl _)=>x=.exit 0|(.inr r)=>x=.ret∧gu .clean tab none [.tmp 4] ⟨t,EH H,e⟩=some (.clean (.bool r),none)) k ?_ ?_ ?_
  ·refine⟨?_,?_,?_⟩;all_goals (rfl)
  ·rintro d t H e i c a;simp only[ub]at a;simp only[iR,seval,i];apply sp ax a<;>intro _ a
   ·obtain⟨w,l,a⟩:=ae a;have f:=bk ah l;simp only[bK]at f;obtain⟨q,g,a⟩:=ae a;have b:=bk ah g;simp only[bK]at b;obtain⟨u,h,a⟩:=ae a;simp only[iR,seval,i,f,b,h];refine bP (by kernel_rfl) ?_;apply sp ax a<;>intro _ a
    ·cases a;simp only[iR,seval];refine tD ⟨rfl,?_⟩;simp only[iR,seval]
    ·cases a;simp only[iR,seval,i];apply iU;and_intros<;>first|rfl|(simp only[iR,seval,i]<;>rfl)
   ·cases a;simp only[iR,seval];apply j8;exact rfl
  ·rintro x t H e j;rcases p with _|y
   ·dsimp only at j a;subst j;cases a;simp only[iR,seval]
   ·dsimp only at j a;obtain⟨rfl,v⟩:=j;cases a;simp only[aY,bc,cA,cI];exact v
def vt (l:Option (D×Row)) (d:List D):=eu (as0) (fun x:Unit=>yc) (fun r:Bool =>.clean (.bool r)) l d
def AK (a:(List ak)) (b:(List ak)):pF none [.sl false false a.length (al ah a),.sl false false b.length (al ah b)]=(nf a b).map fun r:Bool=>(.clean (.bool r),none):=cD _ _ _ (a,b)
def Ao:Env:=(Am.ext (Am.ext (Am.ext (Am.ext (Am.ext bn 12 false jz) 15 false pF) 16 false qf) 18 false mP) 37 false qh)
def PJ:bV prog Ao:=(((((bV.none.add yk false).add D5 false).add Hi false).add CR false).add Hk false)
def iQ:=ai @w<|ai @Yp<|ai @jz.eq_1<|ai @ahw<|ai @qf.eq_1<|ai @Ll<|ai @mP.eq_1<|ai @sh9<|ai @qh.eq_1<|@Ao.eq_1
def Q5:cn prog 9 vt:=cn.jx (mode := .clean) tok PJ mixed func9 (by kernel_rfl) (fun _ _=>rfl) (fun _=>by kernel_rfl) fun _ r a=>by
 replace a:yc=some r:=a;apply aK rfl ntmps9 results9;simp only[jy];unfold yc at a;obtain⟨J,p,a⟩:=ae a;obtain⟨q,u,a⟩:=ae a;obtain⟨B,v,a⟩:=ae a;simp only[iQ,seval,p,u,v];obtain⟨F,w,a⟩:=ae a;refine cR 0 (fun s t H e=>match s with|b=>t 3=sF (dU ah) q.1∧t 4=sF ah q.2.1∧t 6=sF ah B∧t 27=.bool b) (fun s=>s=F) ?_ ?_
 ·rintro b t H e c rfl;try dsimp only at a
  simp only[iQ,seval,c];apply sp ax a<;>intro _ a
  ·cases a;simp only[iQ,seval]
  ·obtain⟨C,h,a⟩:=ae a;obtain⟨D,i,a⟩:=ae a;have E:=AK q.2.1 ([C,D]);simp only[bY,bK,List.length_cons,akl,Nat.reduceAdd]at E;obtain⟨K,x,a⟩:=ae a;simp only[iQ,seval,c,h,i,E,x];apply sp E3 a<;>intro _ a
   ·obtain⟨y,d,a⟩:=ae a;have f:=bk (dU ah) d;simp only[bK]at f;have g:=aiG (dU ah) d;simp only[bK]at g;obtain⟨z,j,a⟩:=ae a;have k:=AK y ([C,z]);simp only[bY,bK,List.length_cons,akl,Nat.reduceAdd]at k;obtain⟨G,l,a⟩:=ae a;simp only[iQ,seval,c,h,f,g,j,k,l];apply sp E3 a<;>intro _ a
    ·obtain⟨A,m,a⟩:=ae a;have n:=AK B ([D,A]);simp only[bY,bK,List.length_cons,akl,Nat.reduceAdd]at n;obtain⟨I,o,a⟩:=ae a;simp only[iQ,seval,c,i,m,n,o];refine bP (by kernel_rfl) ?_;cases a;simp only[seval]
    ·simp only[iQ,seval];refine bP (by kernel_rfl) ?_;cases a;simp only[seval]
   ·simp only[iQ,seval];refine bP (by kernel_rfl) ?_;cases a;simp only[seval]
 ·clear a;have a:=w;simp only[iQ,seval];apply sp bF a<;>intro _ a
  ·cases a;simp only[iQ,seval];rw[aC];refine⟨_,rfl,?_⟩;refine⟨?_,?_,?_,?_⟩;all_goals (rfl)
  ·cases a;simp only[iQ,seval];rw[aC];refine⟨_,rfl,?_⟩;refine⟨?_,?_,?_,?_⟩;all_goals (rfl)
def pE (l:Option (D×Row)) (d:List D):=eu (gh (bU ah) (dS (aI .i64))) (fun x:ak×Int=>we x.1 x.2) (fun r:Bool =>.clean (.bool r)) l d
def adW {β:Type} {F:ak×Int->Option β} {R:β->RK} (c:Int) (a:(List Int)) (d:Int) (b:(List Int)) (e:Int):eu (gh (bU ah) (dS (aI .i64))) F R none [.agg [.int .i64 c,.sl false false a.length (al (eI .i64) a),.int .i64 d,.sl false false b.length (al (eI .i64) b)],.int .i64 e]=(F ((ak.mk (aL.mk c a) (aL.mk d b)),e)).map fun r=>(R r,none):=cD _ _ _ ((ak.mk (aL.mk c a) (aL.mk d b)),e)
def Hp:cn prog 38 pE:=cn.jx (mode := .clean) tok bV.none mixed func38 (by kernel_rfl) (fun _ _=>rfl) (fun _=>by kernel_rfl) fun⟨b,c⟩ r a=>by
 replace a:we b c=some r:=a;apply aK rfl ntmps38 results38;simp only[jy];unfold we at a;simp only[w,seval];apply sp ik a<;>intro _ a
 ·cases a;simp only[w,seval]
 ·cases a;simp only[w,seval]
def qo (l:Option (D×Row)) (d:List D):=eu (dS (bU xF)) (fun x:fb=>lI x) (fun r:Bool =>.clean (.bool r)) l d
def uF:Env:=(Am.ext bn 38 false pE)
def Gw:bV prog uF:=(bV.none.add Hp false)
def bj:=ai @w<|ai @adW<|ai @pE.eq_1<|@uF.eq_1
def Hr:cn prog 32 qo:=cn.jx (mode := .clean) tok Gw mixed func32 (by kernel_rfl) (fun _ _=>rfl) (fun _=>by kernel_rfl) fun g r a=>by
 replace a:lI g=some r:=a;apply aK rfl ntmps32 results32;simp only[jy];unfold lI at a;simp only[bj,seval];obtain⟨G,C,a⟩:=ae a;refine cR 0 (fun s t H e=>match s with|h=>∃d:Nat,t 1=.ptr 1 d 0∧t 20=.bool h∧H 1=rV d 54 [sF bt g.au,sF eF g.aP,sF (dU ah) g.aM]) (fun s=>s=G) ?_ ?_
 ·rintro h t H e ⟨d,p⟩ rfl;try dsimp only at a
  simp only[bj,seval,p];apply sp ax a<;>intro _ a
  ·cases a;simp only[bj,seval]
  ·simp only[bj,seval];obtain⟨D,q,a⟩:=ae a;refine aA (fun s t H e=>match s with|k=>∃l:Nat,t 1=.ptr 1 l 0∧t 3=sN k∧H 1=rV l 54 [sF bt g.au,sF eF g.aP,sF (dU ah) g.aM]) (fun o x t H e=>match o with|(.inl _)=>x=.exit 0|(.inr r)=>x=.ret∧gu .clean tab none [.tmp 2] ⟨t,EH H,e⟩=some (.clean (.bool r),none)) q ?_ ?_ ?_
   ·refine⟨d,?_⟩;and_intros<;>first|rfl|(simp only[bj,seval,p]<;>rfl)
   ·rintro k t H e ⟨l,E⟩ c a;simp only[pb]at a;simp only[bj,seval,E];apply sp ax a<;>intro _ a
    ·obtain⟨I,i,a⟩:=ae a;have b:=bk (dU ah) i;simp only[bK]at b;simp only[bj,seval,E,b];apply sp ax a<;>intro _ a
     ·cases a;simp only[bj,seval];refine tD ⟨rfl,?_⟩;simp only[bj,seval]
     ·simp only[bj,seval];obtain⟨F,u,a⟩:=ae a;refine aA (fun s t H e=>match s with|v=>∃j:Nat,t 1=.ptr 1 j 0∧t 3=sN k∧t 4=sN v∧H 1=rV j 54 [sF bt g.au,sF eF g.aP,sF (dU ah) g.aM]) (fun o x t H e=>match o with|(.inl _)=>x=.exit 2∧∃f:Nat,t 1=.ptr 1 f 0∧t 3=sN k∧H 1=rV f 54 [sF bt g.au,sF eF g.aP,sF (dU ah) g.aM]|(.inr r)=>x=.ret∧gu .clean tab none [.tmp 2] ⟨t,EH H,e⟩=some (.clean (.bool r),none)) u ?_ ?_ ?_
      ·refine⟨l,?_⟩;and_intros<;>first|rfl|(simp only[bj,seval,E]<;>rfl)
      ·rintro v t H e ⟨j,w⟩ c a;simp only[fi]at a;have b:=bk (dU ah) i;simp only[bK]at b;simp only[bj,seval,w,b];apply sp ax a<;>intro _ a
       ·have b:=bk (dU ah) i;simp only[bK]at b;obtain⟨J,y,a⟩:=ae a;have n:=bk ah y;simp only[bK]at n;obtain⟨K,z,a⟩:=ae a;simp only[bj,seval,w,b,n,z];apply sp ax a<;>intro _ a
        ·cases a;simp only[bj,seval];refine tD ⟨rfl,?_⟩;simp only[bj,seval]
        ·cases a;simp only[bj,seval,w];apply iU;refine⟨j,?_⟩;and_intros<;>first|rfl|(simp only[bj,seval,w]<;>rfl)
       ·cases a;simp only[bj,seval];apply j8;refine⟨rfl,⟨j,?_,?_,?_⟩⟩;all_goals ((simp only[bj,seval,w]<;>rfl))
      ·rintro x t H e m;rcases F with _|rd
       ·dsimp only at m a;obtain⟨rfl,⟨f,A⟩⟩:=m;cases a;simp only[bj,seval,A];apply iU;refine⟨f,?_⟩;and_intros<;>first|rfl|(simp only[bj,seval,A]<;>rfl)
       ·dsimp only at m a;obtain⟨rfl,B⟩:=m;cases a;simp only[aY,bc,cA];apply tD;first|exact⟨rfl,B⟩|(simp only[bj,seval]at B;exact⟨rfl,B⟩)
    ·cases a;simp only[bj,seval];apply j8;exact rfl
   ·rintro x t H e m;rcases D with _|L
    ·dsimp only at m a;subst m;cases a;simp only[bj,seval]
    ·dsimp only at m a;obtain⟨rfl,B⟩:=m;cases a;simp only[aY,bc,cA,cI];exact B
 ·clear a;have a:=C;simp only[bj,seval];apply sp bF a<;>intro _ a
  ·cases a;simp only[bj,seval];rw[aC];refine⟨_,rfl,?_⟩;refine⟨0,?_,?_,?_⟩;all_goals (rfl)
  ·simp only[bj,seval];apply sp bF a<;>intro _ a
   ·cases a;simp only[bj,seval];rw[aC];refine⟨_,rfl,?_⟩;refine⟨0,?_,?_,?_⟩;all_goals (rfl)
   ·cases a;simp only[bj,seval];rw[aC];refine⟨_,rfl,?_⟩;refine⟨0,?_,?_,?_⟩;all_goals (rfl)
def yH (l:Option (D×Row)) (d:List D):=eu (dS (bU jK)) (fun x:aT=>y8 x) (fun r:Bool =>.clean (.bool r)) l d
def Cx:Env:=(Am.ext bn 32 false qo)
def Ts:bV prog Cx:=(bV.none.add Hr false)
def dG:=ai @w<|ai @adO<|ai @qo.eq_1<|@Cx.eq_1
def TJ:cn prog 10 yH:=cn.jx (mode := .clean) tok Ts mixed func10 (by kernel_rfl) (fun _ _=>rfl) (fun _=>by kernel_rfl) fun j r a=>by
 replace a:y8 j=some r:=a;apply aK rfl ntmps10 results10;simp only[jy];unfold y8 at a;simp only[dG,seval];obtain⟨u,p,a⟩:=ae a;refine cR 0 (fun s t H e=>match s with|f=>∃d:Nat,t 1=.ptr 1 d 0∧t 13=.bool f∧H 1=rV d 25 [sI j.av,sF bH j.an]) (fun s=>s=u) ?_ ?_
 ·rintro f t H e ⟨d,k⟩ rfl;try dsimp only at a
  simp only[dG,seval,k];apply sp ax a<;>intro _ a
  ·cases a;simp only[dG,seval]
  ·simp only[dG,seval];obtain⟨v,q,a⟩:=ae a;refine aA (fun s t H e=>match s with|l=>∃h:Nat,t 1=.ptr 1 h 0∧t 3=sN l∧H 1=rV h 25 [sI j.av,sF bH j.an]) (fun o x t H e=>match o with|(.inl _)=>x=.exit 0|(.inr r)=>x=.ret∧gu .clean tab none [.tmp 2] ⟨t,EH H,e⟩=some (.clean (.bool r),none)) q ?_ ?_ ?_
   ·refine⟨d,?_⟩;and_intros<;>first|rfl|(simp only[dG,seval,k]<;>rfl)
   ·rintro l t H e ⟨h,i⟩ c a;simp only[wg]at a;simp only[dG,seval,i];apply sp ax a<;>intro _ a
    ·obtain⟨w,g,a⟩:=ae a;have b:=bk bH g;simp only[bK]at b;obtain⟨y,m,a⟩:=ae a;simp only[dG,seval,i,b,m];apply sp bF a<;>intro _ a
     ·cases a;simp only[dG,seval];refine tD ⟨rfl,?_⟩;simp only[dG,seval]
     ·have b:=bk bH g;simp only[bK]at b;simp only[dG,seval,i,b];apply sp bF a<;>intro _ a
      ·cases a;simp only[dG,seval];refine tD ⟨rfl,?_⟩;simp only[dG,seval]
      ·have b:=bk bH g;simp only[bK]at b;simp only[dG,seval,i,b];apply sp ax a<;>intro _ a
       ·cases a;simp only[dG,seval];refine tD ⟨rfl,?_⟩;simp only[dG,seval]
       ·cases a;simp only[dG,seval,i];apply iU;refine⟨h,?_⟩;and_intros<;>first|rfl|(simp only[dG,seval,i]<;>rfl)
    ·cases a;simp only[dG,seval];apply j8;exact rfl
   ·rintro x t H e n;rcases v with _|A
    ·dsimp only at n a;subst n;cases a;simp only[dG,seval]
    ·dsimp only at n a;obtain⟨rfl,z⟩:=n;cases a;simp only[aY,bc,cA,cI];exact z
 ·clear a;have a:=p;simp only[dG,seval];apply sp bF a<;>intro _ a
  ·cases a;simp only[dG,seval];rw[aC];refine⟨_,rfl,?_⟩;refine⟨0,?_,?_,?_⟩;all_goals (rfl)
  ·cases a;simp only[dG,seval];rw[aC];refine⟨_,rfl,?_⟩;refine⟨0,?_,?_,?_⟩;all_goals (rfl)
def yI (l:Option (D×Row)) (d:List D):=eu (dS (j0 (dU ah))) (fun x:(List (List ak))=>wh x) (fun r:Bool =>.clean (.bool r)) l d
def ahx {β:Type} {F:(List (List ak))->Option β} {R:β->RK} (a:(List (List ak))):eu (dS (j0 (dU ah))) F R none [.sl false false a.length (al (dU ah) a)]=(F (a)).map fun r=>(R r,none):=cD _ _ _ (a)
def Cy:Env:=(Am.ext bn 38 false pE)
def Tt:bV prog Cy:=(bV.none.add Hp false)
def cN:=ai @w<|ai @adW<|ai @pE.eq_1<|@Cy.eq_1
def TK:cn prog 11 yI:=cn.jx (mode := .clean) tok Tt mixed func11 (by kernel_rfl) (fun _ _=>rfl) (fun _=>by kernel_rfl) fun k r a=>by
 replace a:wh k=some r:=a;apply aK rfl ntmps11 results11;simp only[jy];unfold wh at a;simp only[cN,seval];obtain⟨A,l,a⟩:=ae a;refine aA (fun s t H e=>match s with|d=>t 0=sF (dU ah) k∧t 3=sN d) (fun o x t H e=>match o with|(.inl _)=>x=.exit 0∧t 0=sF (dU ah) k|(.inr r)=>x=.ret∧gu .clean tab none [.tmp 2] ⟨t,EH H,e⟩=some (.clean (.bool r),none)) l ?_ ?_ ?_
 ·refine⟨?_,?_⟩;all_goals (rfl)
 ·rintro d t H e z c a;simp only[tn]at a;simp only[cN,seval,z];obtain⟨B,m,a⟩:=ae a;refine cR 0 (fun s t H e=>match s with|f=>t 0=sF (dU ah) k∧t 3=sN d∧t 12=.bool f) (fun s=>s=B) ?_ ?_
  ·rintro f t H e h rfl;try dsimp only at a
   simp only[cN,seval,h];apply sp ax a<;>intro _ a
   ·obtain⟨E,g,a⟩:=ae a;have b:=bk (dU ah) g;simp only[bK]at b;simp only[cN,seval,h,b];apply sp ax a<;>intro _ a
    ·cases a;simp only[cN,seval];refine tD ⟨rfl,?_⟩;simp only[cN,seval]
    ·simp only[cN,seval];obtain⟨C,n,a⟩:=ae a;refine aA (fun s t H e=>match s with|p=>t 0=sF (dU ah) k∧t 3=sN d∧t 4=sN p) (fun o x t H e=>match o with|(.inl _)=>x=.exit 2∧t 0=sF (dU ah) k∧t 3=sN d|(.inr r)=>x=.ret∧gu .clean tab none [.tmp 2] ⟨t,EH H,e⟩=some (.clean (.bool r),none)) n ?_ ?_ ?_
     ·and_intros<;>first|rfl|(simp only[cN,seval,h]<;>rfl)
     ·rintro p t H e q c a;simp only[p6]at a;have b:=bk (dU ah) g;simp only[bK]at b;simp only[cN,seval,q,b];apply sp ax a<;>intro _ a
      ·have b:=bk (dU ah) g;simp only[bK]at b;obtain⟨F,u,a⟩:=ae a;have j:=bk ah u;simp only[bK]at j;obtain⟨G,v,a⟩:=ae a;simp only[cN,seval,q,b,j,v];apply sp ax a<;>intro _ a
       ·cases a;simp only[cN,seval];refine tD ⟨rfl,?_⟩;simp only[cN,seval]
       ·cases a;simp only[cN,seval,q];apply iU;and_intros<;>first|rfl|(simp only[cN,seval,q]<;>rfl)
      ·cases a;simp only[cN,seval];apply j8;refine⟨rfl,⟨?_,?_⟩⟩;all_goals ((simp only[cN,seval,q]<;>rfl))
     ·rintro x t H e i;rcases C with _|I
      ·dsimp only at i a;obtain⟨rfl,w⟩:=i;cases a;simp only[cN,seval,w];apply iU;and_intros<;>first|rfl|(simp only[cN,seval,w]<;>rfl)
      ·dsimp only at i a;obtain⟨rfl,y⟩:=i;cases a;simp only[aY,bc,cA];apply tD;first|exact⟨rfl,y⟩|(simp only[cN,seval]at y;exact⟨rfl,y⟩)
   ·cases a;simp only[cN,seval];apply j8;refine⟨rfl,?_⟩;all_goals ((simp only[cN,seval,h]<;>rfl))
  ·clear a;have a:=m;simp only[cN,seval];apply sp ik a<;>intro _ a
   ·cases a;simp only[cN,seval,z];rw[aC];refine⟨_,rfl,?_⟩;and_intros<;>first|rfl|(simp only[cN,seval,z]<;>rfl)
   ·cases a;simp only[cN,seval];rw[aC];refine⟨_,rfl,?_⟩;and_intros<;>first|rfl|(simp only[cN,seval,z]<;>rfl)
 ·rintro x t H e i;rcases A with _|J
  ·dsimp only at i a;obtain⟨rfl,D⟩:=i;cases a;simp only[cN,seval,D]
  ·dsimp only at i a;obtain⟨rfl,y⟩:=i;cases a;simp only[aY,bc,cA,cI];exact y
def xg (l:Option (D×Row)) (d:List D):=eu (gh (j0 (dU ah)) (gh (bU ah) (dS (j0 (dU ah))))) (fun x:(List (List ak))×ak×(List (List ak))=>jg x.1 x.2.1 x.2.2) (fun r:(List (List ak))×Bool =>.clean (.tup [.sl false false r.1.length (al (dU ah) r.1),.bool r.2])) l d
def xS:Env:=(Am.ext (Am.ext bn 23 false eQ) 58 false eR)
def My:bV prog xS:=((bV.none.add qP false).add qQ false)
def cK:=ai @w<|ai @sa<|ai @eQ.eq_1<|ai @eR.eq_1<|@xS.eq_1
def MX:cn prog 19 xg:=cn.jx (mode := .clean) tok My mixed func19 (by kernel_rfl) (fun _ _=>rfl) (fun _=>by kernel_rfl) fun⟨Z,k,p2⟩ r a=>by
 replace a:jg Z k p2=some r:=a;apply aK rfl ntmps19 results19;simp only[jy];unfold jg at a;simp only[cK,seval];apply sp ax a<;>intro _ a
 ·cases a;simp only[cK,seval]
 ·simp only[cK,seval];obtain⟨aa,J,a⟩:=ae a;refine aA (fun s t H e=>match s with|(y,f)=>∃A:Nat,∃l:Nat,t 0=sF (dU ah) Z∧t 2=sF (dU ah) p2∧t 4=.ptr 4 A 0∧t 8=.buf 8 l 1 0 (f).length∧t 9=sN y∧H 4=rV A 41 [sN k.bQ.aq,sI k.bQ.aa,sN k.bX.aq,sI k.bX.aa]∧H 8=rW l 27 (al (dU ah) f)) (fun o x t H e=>match o with|(.inl m)=>x=.exit 0∧∃n:Nat,t 8=.buf 8 n 1 0 (m).length∧H 8=rW n 27 (al (dU ah) m)|(.inr r)=>x=.ret∧gu .clean tab none [.tmp 6,.tmp 7] ⟨t,EH H,e⟩=some (.clean (.tup [.sl false false r.1.length (al (dU ah) r.1),.bool r.2]),none)) J ?_ ?_ ?_
  ·refine⟨0,2,?_,?_,?_,?_,?_,?_,?_⟩;all_goals (rfl)
  ·rintro⟨y,f⟩ t H e ⟨A,l,Za⟩ c a;simp only[l8]at a;simp only[cK,seval,Za];apply sp ax a<;>intro _ a
   ·obtain⟨ag,p,a⟩:=ae a;have b:=bk (dU ah) p;simp only[bK]at b;obtain⟨ai,B,a⟩:=ae a;have d:=bk (dU ah) B;simp only[bK]at d;simp only[cK,seval,Za,b,d];refine bP (by kernel_rfl) ?_;apply sp ax a<;>intro _ a
    ·cases a;simp only[cK,seval];refine tD ⟨rfl,?_⟩;simp only[cK,seval]
    ·simp only[cK,seval];obtain⟨ab,K,a⟩:=ae a;refine aA (fun s t H e=>match s with|(C,q)=>∃u:Nat,∃v:Nat,∃i:Nat,t 0=sF (dU ah) Z∧t 2=sF (dU ah) p2∧t 4=.ptr 4 u 0∧t 8=.buf 8 v 1 0 (f).length∧t 9=sN y∧t 10=.buf 10 i 4 0 (q).length∧t 11=sN C∧H 4=rV u 41 [sN k.bQ.aq,sI k.bQ.aa,sN k.bX.aq,sI k.bX.aa]∧H 8=rW v 27 (al (dU ah) f)∧H 10=rW i 41 (al ah q)) (fun o x t H e=>match o with|g=>x=.exit 2∧∃j:Nat,∃w:Nat,∃h:Nat,t 0=sF (dU ah) Z∧t 2=sF (dU ah) p2∧t 4=.ptr 4 j 0∧t 8=.buf 8 w 1 0 (f).length∧t 9=sN y∧t 10=.buf 10 h 4 0 (g).length∧H 4=rV j 41 [sN k.bQ.aq,sI k.bQ.aa,sN k.bX.aq,sI k.bX.aa]∧H 8=rW w 27 (al (dU ah) f)∧H 10=rW h 41 (al ah g)) K ?_ ?_ ?_
     ·refine⟨A,l,e+1+1,?_⟩;and_intros<;>first|rfl|(simp only[cK,seval,Za]<;>rfl)
     ·rintro⟨C,q⟩ t H e ⟨u,v,i,L⟩ c a;simp only[l9]at a;have b:=bk (dU ah) p;simp only[bK]at b;simp only[cK,seval,L,b];apply sp ax a<;>intro _ a
      ·have b:=bk (dU ah) p;simp only[bK]at b;obtain⟨aj,M,a⟩:=ae a;have D:=bk ah M;simp only[bK]at D;obtain⟨an,N,a⟩:=ae a;simp only[cK,seval,d,L,b,D,N];refine bP (by kernel_rfl) ?_;have d:=bk (dU ah) B;simp only[bK]at d;obtain⟨ao,O,a⟩:=ae a;have E:=bk ah O;simp only[bK]at E;obtain⟨aq,P,a⟩:=ae a;simp only[cK,seval,L,E,P];refine bP (by kernel_rfl) ?_;obtain⟨ar,Q,a⟩:=ae a;obtain⟨R,F,S,T⟩:=jJ ah Q;simp only[bK]at F;cases a;simp only[cK,seval,R,F,S,T];apply iU;refine⟨u,v,e+1+1+1,?_⟩;and_intros<;>first|rfl|(simp only[cK,seval,L]<;>rfl)
      ·cases a;simp only[cK,seval];apply j8;refine⟨rfl,⟨u,v,i,?_,?_,?_,?_,?_,?_,?_,?_,?_⟩⟩;all_goals ((simp only[cK,seval,L]<;>rfl))
     ·rintro x t H e I;obtain⟨g,rfl⟩:∃z,z=ab:=⟨_,rfl⟩;dsimp only at I a;obtain⟨rfl,⟨j,w,h,U⟩⟩:=I;obtain⟨au,V,a⟩:=ae a;obtain⟨W,G,X,Y⟩:=jJ (dU ah) V;simp only[bK]at G;cases a;simp only[cK,seval,U,W,G,X,Y];apply iU;refine⟨j,e,?_⟩;and_intros<;>first|rfl|(simp only[cK,seval,U]<;>rfl)
   ·cases a;simp only[cK,seval];apply j8;refine⟨rfl,⟨l,?_,?_⟩⟩;all_goals ((simp only[cK,seval,Za]<;>rfl))
  ·rintro x t H e I;rcases aa with m|ra
   ·dsimp only at I a;obtain⟨rfl,⟨n,ad⟩⟩:=I;cases a;simp only[cK,seval,ad]
   ·dsimp only at I a;obtain⟨rfl,hE⟩:=I;cases a;simp only[aY,bc,cA,cI];exact hE
def ui (l:Option (D×Row)) (d:List D):=eu (gh (j0 (dU ah)) (dS (j0 (dU ah)))) (fun x:(List (List ak))×(List (List ak))=>iu x.1 x.2) (fun r:Bool =>.clean (.bool r)) l d
def uG:Env:=(Am.ext bn 15 false pF)
def Gx:bV prog uG:=(bV.none.add D5 false)
def fl:=ai @w<|ai @Yq<|ai @pF.eq_1<|@uG.eq_1
def Hs:cn prog 14 ui:=cn.jx (mode := .clean) tok Gx mixed func14 (by kernel_rfl) (fun _ _=>rfl) (fun _=>by kernel_rfl) fun⟨m,n⟩ r a=>by
 replace a:iu m n=some r:=a;apply aK rfl ntmps14 results14;simp only[jy];unfold iu at a;simp only[fl,seval];apply sp ax a<;>intro _ a
 ·cases a;simp only[fl,seval]
 ·simp only[fl,seval];obtain⟨p,k,a⟩:=ae a;refine aA (fun s t H e=>match s with|d=>t 0=sF (dU ah) m∧t 1=sF (dU ah) n∧t 5=sN d) (fun o x t H e=>match o with|(.inl _)=>x=.exit 0|(.inr r)=>x=.ret∧gu .clean tab none [.tmp 4] ⟨t,EH H,e⟩=some (.clean (.bool r),none)) k ?_ ?_ ?_
  ·refine⟨?_,?_,?_⟩;all_goals (rfl)
  ·rintro d t H e i c a;simp only[pc]at a;simp only[fl,seval,i];apply sp ax a<;>intro _ a
   ·obtain⟨w,l,a⟩:=ae a;have f:=bk (dU ah) l;simp only[bK]at f;obtain⟨q,g,a⟩:=ae a;have b:=bk (dU ah) g;simp only[bK]at b;obtain⟨u,h,a⟩:=ae a;simp only[fl,seval,i,f,b,h];refine bP (by kernel_rfl) ?_;apply sp ax a<;>intro _ a
    ·cases a;simp only[fl,seval];refine tD ⟨rfl,?_⟩;simp only[fl,seval]
    ·cases a;simp only[fl,seval,i];apply iU;and_intros<;>first|rfl|(simp only[fl,seval,i]<;>rfl)
   ·cases a;simp only[fl,seval];apply j8;exact rfl
  ·rintro x t H e j;rcases p with _|y
   ·dsimp only at j a;subst j;cases a;simp only[fl,seval]
   ·dsimp only at j a;obtain⟨rfl,v⟩:=j;cases a;simp only[aY,bc,cA,cI];exact v
def Ej (l:Option (D×Row)) (d:List D):=eu (gh (bU jK) (gh (j0 (dU ah)) (gh (j0 (dU ah)) (gh (aI .u8) (dS (aI .u8)))))) (fun x:aT×(List (List ak))×(List (List ak))×Int×Int=>jD x.1 x.2.1 x.2.2.1 x.2.2.2.1 x.2.2.2.2) (fun r:Bool =>.clean (.bool r)) l d
def ym (e:(List (List ak))) (c:Int) (a:(List Int)) (d:Int) (b:(List Int)) (f:(List (List ak))):xg none [.sl false false e.length (al (dU ah) e),.agg [.int .i64 c,.sl false false a.length (al (eI .i64) a),.int .i64 d,.sl false false b.length (al (eI .i64) b)],.sl false false f.length (al (dU ah) f)]=(jg e (ak.mk (aL.mk c a) (aL.mk d b)) f).map fun r:(List (List ak))×Bool=>(.clean (.tup [.sl false false r.1.length (al (dU ah) r.1),.bool r.2]),none):=cD _ _ _ (e,(ak.mk (aL.mk c a) (aL.mk d b)),f)
def uN (a:(List (List ak))) (b:(List (List ak))):ui none [.sl false false a.length (al (dU ah) a),.sl false false b.length (al (dU ah) b)]=(iu a b).map fun r:Bool=>(.clean (.bool r),none):=cD _ _ _ (a,b)
def rj:Env:=(Am.ext (Am.ext (Am.ext (Am.ext (Am.ext (Am.ext (Am.ext (Am.ext bn 9 false vt) 10 false yH) 11 false yI) 12 false jz) 14 false ui) 18 false mP) 19 false xg) 20 false iE)
def CB:bV prog rj:=((((((((bV.none.add Q5 false).add TJ false).add TK false).add yk false).add Hs false).add CR false).add MX false).add wN false)
def aD:=ai @w<|ai @sh9<|ai @vt.eq_1<|ai @RM<|ai @yH.eq_1<|ai @ahx<|ai @yI.eq_1<|ai @Yp<|ai @jz.eq_1<|ai @uN<|ai @Ll<|ai @mP.eq_1<|ai @ym<|ai @sa<|ai @iE.eq_1<|@rj.eq_1
def CQ:cn prog 4 Ej:=cn.jx (mode := .clean) tok CB mixed func4 (by kernel_rfl) (fun _ _=>rfl) (fun _=>by kernel_rfl) fun⟨p,Q,R,S,T⟩ r a=>by
 replace a:jD p Q R S T=some r:=a;apply aK rfl ntmps4 results4;simp only[jy];unfold jD at a;obtain⟨q,U,a⟩:=ae a;obtain⟨r2,V,a⟩:=ae a;simp only[aD,seval,U,V];obtain⟨o3,W,a⟩:=ae a;refine cR 0 (fun s t H e=>match s with|g=>∃d:Nat,t 1=sF (dU ah) Q∧t 2=sF (dU ah) R∧t 3=.int .u8 S∧t 4=.int .u8 T∧t 5=.ptr 5 d 0∧t 11=.bool q∧t 46=.bool g∧H 5=rV d 25 [sI p.av,sF bH p.an]) (fun s=>s=o3) ?_ ?_
 ·rintro g t H e ⟨d,h⟩ rfl;try dsimp only at a
  simp only[aD,seval,h];apply sp ax a<;>intro _ a
  ·cases a;simp only[aD,seval,h]
  ·obtain⟨X,Y,a⟩:=ae a;obtain⟨u,Z,a⟩:=ae a;simp only[aD,seval,h,Y,Z];obtain⟨o7,aa,a⟩:=ae a;refine cR 0 (fun s t H e=>match s with|i=>∃j:Nat,t 1=sF (dU ah) Q∧t 2=sF (dU ah) R∧t 3=.int .u8 S∧t 4=.int .u8 T∧t 5=.ptr 5 j 0∧t 11=.bool q∧t 12=sF (dU ah) X.1∧t 13=sF ah X.2.1∧t 15=sF (dU ah) u.1∧t 16=sF ah u.2.1∧t 67=.bool i∧H 5=rV j 25 [sI p.av,sF bH p.an]) (fun s=>s=o7) ?_ ?_
   ·rintro i t H e ⟨j,b⟩ rfl;try dsimp only at a
    simp only[aD,seval,b];apply sp ax a<;>intro _ a
    ·cases a;simp only[aD,seval,b]
    ·obtain⟨O,ab,a⟩:=ae a;obtain⟨al,v,a⟩:=ae a;obtain⟨n,w,a⟩:=ae a;obtain⟨an,y,a⟩:=ae a;have z:=ym ([X.2.1]) O.bQ.aq O.bQ.aa O.bX.aq O.bX.aa ([u.2.1]);simp only[bY,bK,List.length_cons,akl]at z;obtain⟨ad,A,a⟩:=ae a;simp only[aD,seval,b,ab,v,w,y,z,A];obtain⟨ag,B,a⟩:=ae a;refine cR 0 (fun s t H e=>match s with|f=>t 11=.bool q∧t 16=sF ah u.2.1∧t 22=sF ah n.2.1∧t 130=.bool f) (fun s=>s=ag) ?_ ?_
     ·rintro f t H e C rfl;try dsimp only at a
      simp only[aD,seval,C];apply sp ax a<;>intro _ a
      ·cases a;simp only[aD,seval]
      ·simp only[aD,seval];obtain⟨ai,D,a⟩:=ae a;refine aA (fun s t H e=>match s with|k=>t 11=.bool q∧t 16=sF ah u.2.1∧t 22=sF ah n.2.1∧t 28=sN k) (fun o x t H e=>match o with|(.inl _)=>x=.exit 0∧t 11=.bool q|(.inr r)=>x=.ret∧gu .clean tab none [.tmp 10] ⟨t,EH H,e⟩=some (.clean (.bool r),none)) D ?_ ?_ ?_
       ·and_intros<;>first|rfl|(simp only[aD,seval,C]<;>rfl)
       ·rintro k t H e E c a;simp only[l7]at a;simp only[aD,seval,E];apply sp ax a<;>intro _ a
        ·obtain⟨ao,F,a⟩:=ae a;have l:=bk ah F;simp only[bK]at l;obtain⟨aq,G,a⟩:=ae a;have m:=bk ah G;simp only[bK]at m;obtain⟨ar,I,a⟩:=ae a;simp only[aD,seval,E,l,m,I];refine bP (by kernel_rfl) ?_;apply sp ax a<;>intro _ a
         ·cases a;simp only[aD,seval];refine tD ⟨rfl,?_⟩;simp only[aD,seval]
         ·cases a;simp only[aD,seval,E];apply iU;and_intros<;>first|rfl|(simp only[aD,seval,E]<;>rfl)
        ·cases a;simp only[aD,seval];apply j8;refine⟨rfl,?_⟩;all_goals ((simp only[aD,seval,E]<;>rfl))
       ·rintro x t H e P;rcases ai with _|rd
        ·dsimp only at P a;obtain⟨rfl,aj⟩:=P;cases a;simp only[aD,seval,aj]
        ·dsimp only at P a;obtain⟨rfl,hE⟩:=P;cases a;simp only[aY,bc,cA,cI];exact hE
     ·clear a;have a:=B;simp only[aD,seval];apply sp bF a<;>intro _ a
      ·cases a;simp only[aD,seval];rw[aC];refine⟨_,rfl,?_⟩;and_intros<;>first|rfl|(simp only[aD,seval,b]<;>rfl)
      ·simp only[aD,seval];apply sp bF a<;>intro _ a
       ·cases a;simp only[aD,seval];rw[aC];refine⟨_,rfl,?_⟩;and_intros<;>first|rfl|(simp only[aD,seval,b]<;>rfl)
       ·simp only[aD,seval];apply sp bF a<;>intro _ a
        ·cases a;simp only[aD,seval];rw[aC];refine⟨_,rfl,?_⟩;and_intros<;>first|rfl|(simp only[aD,seval,b]<;>rfl)
        ·simp only[aD,seval];apply sp bF a<;>intro _ a
         ·cases a;simp only[aD,seval];rw[aC];refine⟨_,rfl,?_⟩;and_intros<;>first|rfl|(simp only[aD,seval,b]<;>rfl)
         ·obtain⟨au,J,a⟩:=ae a;simp only[aD,seval,J];apply sp bF a<;>intro _ a
          ·cases a;simp only[aD,seval];rw[aC];refine⟨_,rfl,?_⟩;and_intros<;>first|rfl|(simp only[aD,seval,b]<;>rfl)
          ·have K:=uN ([n.2.1]) ad.1;simp only[bY,bK,List.length_cons,akl]at K;obtain⟨av,L,a⟩:=ae a;cases a;simp only[aD,seval,K,L];rw[aC];refine⟨_,rfl,?_⟩;and_intros<;>first|rfl|(simp only[aD,seval,b]<;>rfl)
   ·clear a;have a:=aa;simp only[aD,seval];apply sp bF a<;>intro _ a
    ·cases a;simp only[aD,seval];rw[aC];refine⟨_,rfl,?_⟩;refine⟨d,?_⟩;and_intros<;>first|rfl|(simp only[aD,seval,h]<;>rfl)
    ·cases a;simp only[aD,seval];rw[aC];refine⟨_,rfl,?_⟩;refine⟨d,?_⟩;and_intros<;>first|rfl|(simp only[aD,seval,h]<;>rfl)
 ·clear a;have a:=W;simp only[aD,seval];apply sp bF a<;>intro _ a
  ·cases a;simp only[aD,seval];rw[aC];refine⟨_,rfl,?_⟩;refine⟨0,?_,?_,?_,?_,?_,?_,?_,?_⟩;all_goals (rfl)
  ·obtain⟨aw,M,a⟩:=ae a;simp only[aD,seval,M];apply sp bF a<;>intro _ a
   ·cases a;simp only[aD,seval];rw[aC];refine⟨_,rfl,?_⟩;refine⟨0,?_,?_,?_,?_,?_,?_,?_,?_⟩;all_goals (rfl)
   ·obtain⟨ay,N,a⟩:=ae a;simp only[aD,seval,N];apply sp bF a<;>intro _ a
    ·cases a;simp only[aD,seval];rw[aC];refine⟨_,rfl,?_⟩;refine⟨0,?_,?_,?_,?_,?_,?_,?_,?_⟩;all_goals (rfl)
    ·cases a;simp only[aD,seval];rw[aC];refine⟨_,rfl,?_⟩;refine⟨0,?_,?_,?_,?_,?_,?_,?_,?_⟩;all_goals (rfl)
end Go.Proofs.YtobnihfgnbnncaaGreat.Am
namespace Go.Proofs.YtobnihfgnbnncaaGreat.Am
open Go.ChangeShapes Go.WideShapes Go.ChangeAt Go.RowKit Go.Proofs.YtobnihfgnbnncaaGreat.P
set_option maxRecDepth 100000
def Tryz.own:ownKnob Tryz.prog.godebug=none:=by kernel_rfl
def Tryz.laidOut:laidOutB prog=true:=by kernel_rfl
def IV (n:Nat):Dm tab (n+1) 3 (eI .i64) (fun x=>(Lit.int .i64 x).wf=true):=opI WT rfl rfl
def abD (n:Nat):Dm tab (n+2) 22 (dU (eI .i64)) (fun x=>(x.length*8<=140737488351232∧∀y∈x,(Lit.int .i64 y).wf=true)):=TL Np rfl rfl (by rw[WT];rfl) (IV n)
def AE (x:gV):Prop:=(Lit.int .i64 x.bh).wf=true∧((Lit.int .i64 x.aV).wf=true∧((Lit.int .i64 x.aR).wf=true))
def aha (n:Nat):Dm tab (n+2) 83 bt (fun x=>AE x):=opS (g:=fun y=>gV.mk y.1 y.2.1 y.2.2) Nw rfl rfl (fun _=>rfl) (CW (IV n) rfl (CW (IV n) rfl (Ra (IV n))))
def ag3 (n:Nat):Dm tab (n+3) 51 (dU bt) (fun x=>(x.length*24<=140737488351232∧∀y∈x,AE y)):=TL T8 rfl rfl (by rw[Nw];rfl) (aha n)
def aiK (n:Nat):Dm tab (n+1) 9 afj (fun x=>x.size<=140737488351232):=agY ach rfl rfl
def MT (x:tz):Prop:=(Lit.int .i64 x.bh).wf=true∧((Lit.int .i64 x.aV).wf=true∧((Lit.int .i64 x.aR).wf=true∧(x.Mr.size<=140737488351232)))
def ag8 (n:Nat):Dm tab (n+2) 60 eF (fun x=>MT x):=opS (g:=fun y=>tz.mk y.1 y.2.1 y.2.2.1 y.2.2.2) Nu rfl rfl (fun _=>rfl) (CW (IV n) rfl (CW (IV n) rfl (CW (IV n) rfl (Ra (aiK n)))))
def ag4 (n:Nat):Dm tab (n+3) 52 (dU eF) (fun x=>(x.length*40<=140737488351232∧∀y∈x,MT y)):=TL T9 rfl rfl (by rw[Nu];rfl) (ag8 n)
def MS (x:aL):Prop:=(Lit.int .i64 x.aq).wf=true∧((x.aa.length*8<=140737488351232∧∀y∈x.aa,(Lit.int .i64 y).wf=true))
def aeV (n:Nat):Dm tab (n+3) 39 jI (fun x=>MS x):=opS (g:=fun y=>aL.mk y.1 y.2) T7 rfl rfl (fun _=>rfl) (CW (IV (n+1)) rfl (Ra (abD n)))
def mZ (x:ak):Prop:=MS x.bQ∧(MS x.bX)
def ag2 (n:Nat):Dm tab (n+4) 41 ah (fun x=>mZ x):=opS (g:=fun y=>ak.mk y.1 y.2) Ns rfl rfl (fun _=>rfl) (CW (aeV n) rfl (Ra (aeV n)))
def ag1 (n:Nat):Dm tab (n+5) 27 (dU ah) (fun x=>(x.length*64<=140737488351232∧∀y∈x,mZ y)):=TL Nr rfl rfl (by rw[Ns];rfl) (ag2 n)
def abE (n:Nat):Dm tab (n+6) 26 (dU (dU ah)) (fun x=>(x.length*24<=140737488351232∧∀y∈x,(y.length*64<=140737488351232∧∀z∈y,mZ z))):=TL HZ rfl rfl (by rw[Nr];rfl) (ag1 n)
def Q1 (x:fb):Prop:=(x.au.length*24<=140737488351232∧∀y∈x.au,AE y)∧((x.aP.length*40<=140737488351232∧∀y∈x.aP,MT y)∧((x.aM.length*24<=140737488351232∧∀y∈x.aM,(y.length*64<=140737488351232∧∀z∈y,mZ z))))
def ag5 (n:Nat):Dm tab (n+7) 54 xF (fun x=>Q1 x):=opS (g:=fun y=>fb.mk y.1 y.2.1 y.2.2) Ua rfl rfl (fun _=>rfl) (CW (ag3 (n+3)) rfl (CW (ag4 (n+3)) rfl (Ra (abE n))))
def MU (x:ia):Prop:=(Lit.int .i64 x.ca).wf=true∧((Lit.int .i64 x.aR).wf=true)
def ag9 (n:Nat):Dm tab (n+2) 72 gn (fun x=>MU x):=opS (g:=fun y=>ia.mk y.1 y.2) Nv rfl rfl (fun _=>rfl) (CW (IV n) rfl (Ra (IV n)))
def ag6 (n:Nat):Dm tab (n+3) 55 (dU gn) (fun x=>(x.length*16<=140737488351232∧∀y∈x,MU y)):=TL Ub rfl rfl (by rw[Nv];rfl) (ag9 n)
def Ha (x:bs):Prop:=Q1 x.aw∧((x.bq.length*16<=140737488351232∧∀y∈x.bq,MU y)∧((x.aB.length*8<=140737488351232∧∀y∈x.aB,(Lit.int .i64 y).wf=true)))
def ag7 (n:Nat):Dm tab (n+8) 57 bH (fun x=>Ha x):=opS (g:=fun y=>bs.mk y.1 y.2.1 y.2.2) Nt rfl rfl (fun _=>rfl) (CW (ag5 n) rfl (CW (ag6 (n+4)) rfl (Ra (abD (n+5)))))
def agZ (n:Nat):Dm tab (n+9) 23 (dU bH) (fun x=>(x.length*120<=140737488351232∧∀y∈x,Ha y)):=TL T6 rfl rfl (by rw[Nt];rfl) (ag7 n)
def y6 (x:aT):Prop:=(x.av.length*8<=140737488351232∧∀y∈x.av,(Lit.int .i64 y).wf=true)∧((x.an.length*120<=140737488351232∧∀y∈x.an,Ha y))
def ag0 (n:Nat):Dm tab (n+10) 25 jK (fun x=>y6 x):=opS (g:=fun y=>aT.mk y.1 y.2) Nq rfl rfl (fun _=>rfl) (CW (abD (n+7)) rfl (Ra (agZ n)))
def zr:Zp tab 11 [25,26,26,5,5] (gh (bU jK) (gh (j0 (dU ah)) (gh (j0 (dU ah)) (gh (aI .u8) (dS (aI .u8)))))) (fun x=>y6 x.1∧((x.2.1.length*24<=140737488351232∧∀y∈x.2.1,(y.length*64<=140737488351232∧∀z∈y,mZ z))∧((x.2.2.1.length*24<=140737488351232∧∀y∈x.2.2.1,(y.length*64<=140737488351232∧∀z∈y,mZ z))∧((Lit.int .u8 x.2.2.2.1).wf=true∧((Lit.int .u8 x.2.2.2.2).wf=true))))):=(adC (oaS Nq rfl (ag0 1)) (adC (agX HZ rfl (abE 5)) (adC (agX HZ rfl (abE 5)) (adC (oaI WU rfl) (aiJ (oaI WU rfl))))))
def yd (law:∀(g:aT) (e:(List (List ak))) (f:(List (List ak))) (h:Int) (i:Int),(y6 g)->((e.length*24<=140737488351232∧∀y∈e,(y.length*64<=140737488351232∧∀z∈y,mZ z)))->((f.length*24<=140737488351232∧∀y∈f,(y.length*64<=140737488351232∧∀z∈y,mZ z)))->((Lit.int .u8 h).wf=true)->((Lit.int .u8 i).wf=true)->P.jD g e f h i=some true) (j:Os) (a:j.Started) (H:Type) (b:TypeId×Value->H) :
  ReturnsInHanded {} Tryz.checked j 4 .any (Rows.carryAddsSpec.pre6 b prog Tryz.f4 Rows.carryAddsRow.domain false) (Rows.carryAddsSpec.post b prog Tryz.f4 false true false false):=by
 refine TU (C:=Tryz.checked) (T:=tab) (tb:=4) (n:=11) tok Tryz.own a (by kernel_rfl) func4
  (ChangeSpec.witness6 (enc:=b) (C:=Tryz.checked) false ⟨#[],#[.agg #[.slice none 0 0,.slice none 0 0],.slice none 0 0,.slice none 0 0,.int .u8 0,.int .u8 0],[]⟩ 8 (by kernel_rfl) (by kernel_rfl) (by kernel_rfl) (by kernel_rfl)) Tryz.laidOut (by kernel_rfl) rfl (by kernel_rfl) rfl (fun m c =>?_) (fun o k l =>?_)
 ·rw[Tryz.params4]at c
  match m,c with
  | [d0,d1,d2,d3,d4],_=>exact⟨rfl,rfl,rfl⟩
 ·rw[Tryz.params4]at k l;exact afw zr CQ (fun x d=>law x.1 x.2.1 x.2.2.1 x.2.2.2.1 x.2.2.2.2 d.1 d.2.1 d.2.2.1 d.2.2.2.1 d.2.2.2.2) o k l
set_option maxHeartbeats 4000000 in
theorem zm (b:∀(f:aT) (c:(List (List ak))) (d:(List (List ak))) (g:Int) (h:Int),(y6 f)->((c.length*24<=140737488351232∧∀y∈c,(y.length*64<=140737488351232∧∀z∈y,mZ z)))->((d.length*24<=140737488351232∧∀y∈d,(y.length*64<=140737488351232∧∀z∈y,mZ z)))->((Lit.int .u8 g).wf=true)->((Lit.int .u8 h).wf=true)->P.jD f c d g h=some true):Rows.CarryAddsSaid :=
 OpenClaim.holds_of_wide 4 Tryz.f4 rfl rfl rfl rfl rfl rfl rfl ⟨rfl,rfl,rfl,rfl,rfl⟩ rfl rfl rfl rfl rfl (by kernel_rfl) func4 (by kernel_rfl)
  (of_decide_eq_true (by kernel_rfl)) (by unfold Func.isWrapper;first|(rw[if_pos (by decide +kernel)];kernel_rfl)|(rw[if_neg (by decide +kernel)];exact⟨rfl,rfl⟩))
  (fun i a H e _=>yd b i a H e)
end Go.Proofs.YtobnihfgnbnncaaGreat.Am
namespace Go.Proofs.YtobnihfgnbnncaaGreat.P
open Go.RowKit
def bE (n:Nat):List Int:=if h:n=0 then [] else ((n % 1048576:Nat):Int)::bE (n / 1048576)
termination_by n
decreasing_by omega
def dv:List Int->Int
 | []=>0
 | d::l=>d+1048576*dv l
def Dg (l:List Int):Prop:=∀d∈l,0<=d∧d<1048576
def pw (i:Nat):Int:=1048576 ^ i
def tZ:pw 0=1:=rfl
def mv (i:Nat):pw (i+1)=1048576*pw i:=by unfold pw;omega
def th (i:Nat):0<pw i:=by unfold pw;exact Int.pow_pos (by decide)
def M9 (i j:Nat):pw (i+j)=pw i*pw j:=by unfold pw;rw[Int.pow_add]
def wc {i j:Nat} (h:i<=j):pw i<=pw j:=by
 obtain⟨k,rfl⟩:=Nat.le.dest h;rw[M9];have a:=th i;have b:=th k
 calc pw i=pw i*1:=by rw[Int.mul_one]
  _<=pw i*pw k:=als (by omega) (by omega)
def eo:bE 0=[]:=by rw[bE];rfl
def qD {n:Nat} (h:n≠0):bE n=((n % 1048576:Nat):Int)::bE (n / 1048576):=by rw[bE,dif_neg h]
def xz {n:Nat} : bE n=[]↔n=0:=by
 constructor
 ·intro h;rcases ajD n with a|a
  ·exact a
  ·rw[qD (by omega)]at h;cases h
 ·rintro rfl;exact eo
def cT:∀n:Nat,dv (bE n)=n:=by
 intro n
 induction n using Nat.strongRecOn with
 | _ n b =>
  rcases ajD n with a|a
  ·subst a;rw[eo];rfl
  ·rw[qD (by omega),dv,b (n / 1048576) (by omega)];omega
def fJ:∀n:Nat,Dg (bE n):=by
 intro n
 induction n using Nat.strongRecOn with
 | _ n c =>
  rcases ajD n with b|b
  ·subst b;rw[eo];intro d a;cases a
  ·rw[qD (by omega)];intro d a;rcases aju.1 a with rfl|a
   ·omega
   ·exact c (n / 1048576) (by omega) d a
def Dg.nil:Dg []:=fun d a=>by cases a
def Dg.cons {d:Int} {l:List Int} (h:Dg (d::l)):(0<=d∧d<1048576)∧Dg l:=⟨h d akJ,fun x a=>h x (akK _ a)⟩
def Dg.mk {d:Int} {l:List Int} (h:0<=d∧d<1048576) (b:Dg l):Dg (d::l):=fun x a=>by
 rcases aju.1 a with rfl|a
 ·exact h
 ·exact b x a
def Dg.append {l m:List Int} (h:Dg l) (a:Dg m):Dg (l++m):=fun x b=>(akI.1 b).elim (h x) (a x)
def Dg.take {l:List Int} (h:Dg l) (n:Nat):Dg (l.take n):=fun x a=>h x (aj0 a)
def Dg.drop {l:List Int} (h:Dg l) (n:Nat):Dg (l.drop n):=fun x a=>h x (ajY a)
def Dg.rep (n:Nat):Dg (List.replicate n 0):=fun x a=>by simp_all
def Dg.set {l:List Int} (h:Dg l) (i:Nat) {x:Int} (b:0<=x∧x<1048576):Dg (l.set i x):=fun y a=>by
 rcases List.mem_or_eq_of_mem_set a with a|rfl
 ·exact h y a
 ·exact b
def Dg.get {l:List Int} (h:Dg l) {i:Nat} (a:i<l.length):0<=l[i]∧l[i]<1048576:=h _ (ajz a)
def ep:∀ {l:List Int},Dg l->0<=dv l
 | [],_=>Int.le_refl _
 | d::l,h=>by
  have a:=h.cons;have:=ep a.2;simp only[dv];omega
def tO:∀ {l:List Int},Dg l->dv l<pw l.length
 | [],_=>by simp[dv,tZ]
 | d::l,h=>by
  have a:=h.cons;have:=tO a.2;simp only[dv,List.length_cons,mv];omega
def lV:∀l m:List Int,dv (l++m)=dv l+pw l.length*dv m
 | [],m=>by simp[dv,tZ]
 | d::l,m=>by
  rw[ak6,dv,dv,lV l m,aj4,mv,alu,Int.mul_assoc];omega
def FQ:∀n:Nat,dv (List.replicate n 0)=0
 | 0=>rfl
 | n+1=>by rw[aka,dv,FQ n];rfl
def lW {l:List Int} {i:Nat} (h:i<l.length):dv (l.take (i+1))=dv (l.take i)+pw i*l[i]:=by
 have e:l.take (i+1)=l.take i++[l[i]]:=by simp_all
 rw[e,lV,ajE,alh (by omega)];simp[dv]
def lu (l:List Int) {i:Nat} (h:i<=l.length):dv l=dv (l.take i)+pw i*dv (l.drop i):=by
 have:=lV (l.take i) (l.drop i);simp_all
def xE {l:List Int} {i:Nat} (h:i<l.length) (x:Int):dv (l.set i x)=dv l+pw i*(x-l[i]):=by
 induction l generalizing i with
 | nil=>simp at h
 | cons d l a =>
  cases i with
  | zero=>simp only[List.set_cons_zero,dv,tZ,List.getElem_cons_zero];omega
  | succ i =>
   have:=a (i:=i) (by simpa using h);simp only[List.set_cons_succ,dv,this,mv,List.getElem_cons_succ,alu,Int.mul_assoc];omega
def EO:∀ {l:List Int},Dg l->(∀h:l≠[],l.getLast h≠0)->bE (dv l).toNat=l
 | [],_,_=>by simp[dv,eo]
 | d::l,h,n=>by
  have a:=h.cons;have o:=ep a.2;have b:(dv (d::l)).toNat≠0:=by
   simp only[dv];intro p;have c:d=0:=by omega
   have g:dv l=0:=by omega
   cases l with
   | nil=>simp_all
   | cons e m =>
    have f:=EO a.2 (fun i=>by simp_all);rw[g]at f;simp[eo]at f
  rw[qD b];have j:(dv (d::l)).toNat % 1048576=d.toNat:=by simp only[dv];omega
  have k:(dv (d::l)).toNat / 1048576=(dv l).toNat:=by simp only[dv];omega
  rw[j,k];have c:(d.toNat:Int)=d:=by omega
  rw[c];cases l with
  | nil=>simp[dv,eo]
  | cons e m=>rw[EO a.2 (fun i=>by simp_all)]
def Xo:∀(n:Nat) (h:bE n≠[]),(bE n).getLast h≠0:=by
 intro n
 induction n using Nat.strongRecOn with
 | _ n d =>
  intro h;have b:n≠0:=fun a=>h (xz.2 a);have e:=qD b
  by_cases hq:n / 1048576=0
  ·have:bE n=[((n % 1048576:Nat):Int)]:=by rw[e,hq,eo]
   grind
  ·have c:bE (n / 1048576)≠[]:=fun a=>hq (xz.1 a);grind
def Z8 {a b:Nat} (h:bE a=bE b):a=b:=by
 have:=congrArg dv h;rw[cT,cT]at this;omega
def nX {n k:Nat} (h:(n:Int)<pw k):(bE n).length<=k:=by
 induction k generalizing n with
 | zero =>
  rw[tZ]at h;have:n=0:=by omega
  rw[this,eo];simp
 | succ k b =>
  by_cases a:n=0
  ·rw[a,eo];simp
  ·rw[qD a,aj4];rw[mv]at h;grind
def lB (n:Nat):(n:Int)<pw (bE n).length:=by
 have:=tO (fJ n)
 rwa [cT]at this
def Bb {n:Nat} (h:n≠0):pw ((bE n).length-1)<=n∧0<(bE n).length:=by
 induction n using Nat.strongRecOn with
 | _ n b =>
  rw[qD h,aj4];refine⟨?_,by omega⟩
  by_cases a:n / 1048576=0
  ·rw[a,eo];simp[tZ];omega
  ·obtain⟨c,d⟩:=b (n / 1048576) (by omega) a;have:(bE (n / 1048576)).length+1-1=((bE (n / 1048576)).length-1)+1:=by omega
   rw[this,mv];omega
def xk {x:Int} (b : -9223372036854775808<=x) (c:x<9223372036854775808):mR .and .i64 x 1048575=x % 1048576:=by
 unfold mR;simp only;have a:(BitVec.ofInt IntKind.i64.bits x &&& BitVec.ofInt IntKind.i64.bits 1048575).toNat=((x % 18446744073709551616).toNat) % 1048576:=by
  rw[BitVec.toNat_and,BitVec.toNat_ofInt,BitVec.toNat_ofInt];have e:((1048575:Int) % ((2 ^ IntKind.i64.bits:Nat):Int)).toNat=2 ^ 20-1:=by decide
  rw[e,alv];rfl
 rw[a,wrap64 (by omega) (by omega)];omega
def acO {x:Int} (b : -9223372036854775808<=x) (c:x<9223372036854775808):mR .and .i64 x 1=x % 2:=by
 unfold mR;simp only;have a:(BitVec.ofInt IntKind.i64.bits x &&& BitVec.ofInt IntKind.i64.bits 1).toNat=((x % 18446744073709551616).toNat) % 2:=by
  rw[BitVec.toNat_and,BitVec.toNat_ofInt,BitVec.toNat_ofInt];have e:((1:Int) % ((2 ^ IntKind.i64.bits:Nat):Int)).toNat=2 ^ 1-1:=by decide
  rw[e,alv];rfl
 rw[a,wrap64 (by omega) (by omega)];omega
def RQ (x:Int):AN .i64 x 20=some (x / 1048576):=by
 unfold AN;rw[if_neg (by decide)];have e:(2:Int) ^ (min (Int.toNat 20) IntKind.i64.bits)=1048576:=by decide
 grind
def abS {x:Int} (a:0<=x) (h:x<8796093022208):I0 .i64 x 20=some (1048576*x):=by
 unfold I0;rw[if_neg (by decide)];have e:(2:Int) ^ (min (Int.toNat 20) IntKind.i64.bits)=1048576:=by decide
 rw[e,wrap64 (by omega) (by omega),Int.mul_comm]
def TM {x y:Int} (d:0<=x) (h:x<8796093022208) (f:0<=y∧y<1048576):mR .or .i64 (1048576*x) y=1048576*x+y:=by
 unfold mR;simp only;have a:(BitVec.ofInt IntKind.i64.bits (1048576*x) ||| BitVec.ofInt IntKind.i64.bits y).toNat=1048576*x.toNat+y.toNat:=by
  rw[BitVec.toNat_or,BitVec.toNat_ofInt,BitVec.toNat_ofInt];have e:((2 ^ IntKind.i64.bits:Nat):Int)=18446744073709551616:=by decide
  rw[e];have b:((1048576*x) % 18446744073709551616).toNat=x.toNat <<< 20:=by omega
  have c:(y % 18446744073709551616).toNat=y.toNat:=by omega
  rw[b,c,<- Nat.shiftLeft_add_eq_or_of_lt (by omega),Nat.shiftLeft_eq];omega
 rw[a,wrap64 (by omega) (by omega)];omega
def mk0 {n:Nat} (h:n<=17592186044416):Io 8 (n:Int) (n:Int) (0:Int)=some (List.replicate n 0):=by
 unfold Io;rw[if_pos]
 ·simp
 ·have:(17592186044416:Int)<=maxLen:=by decide
  omega
def It {l m:List Int} (h:l.length+m.length<=17592186044416):ou 8 l m=some (l++m):=by
 unfold ou;have:(17592186044416:Nat)<=maxLen:=by decide
 grind
def eB {σ ρ:Type} {body:σ->Option (σ⊕ρ)} (I:Nat->σ->Prop) (n:Nat) (Q:ρ->Prop) {s:σ} (c:I 0 s) (m:n+1<FU)
  (a:∀i s,i<=n->I i s->(i<n∧∃b,body s=some (.inl b)∧I (i+1) b)∨(∃r,body s=some (.inr r)∧Q r)):∃r,aQ body s=some r∧Q r:=by
 have key:∀(k i:Nat) (s:σ),i<=n->n-i<k->I i s->∃r,rB body k s=some r∧Q r:=by
  intro k
  induction k with
  | zero=>omega
  | succ k f =>
   intro i s g o c;rcases a i s g c with⟨h,b,d,e⟩|⟨r,d,e⟩
   ·obtain⟨r,j,l⟩:=f (i+1) b (by omega) (by omega) e;exact⟨r,by simp only[rB,d];exact j,l⟩
   ·exact⟨r,by simp only[rB,d],e⟩
 exact key FU 0 s (ajp _) (by omega) c
def adL (i:Nat) (x:Int):pw (i+1)*x=pw i*(1048576*x):=by rw[mv,Int.mul_comm 1048576 (pw i),Int.mul_assoc]
def C1 (i:Nat) (t:Int):pw i*(t % 1048576)+pw (i+1)*(t / 1048576)=pw i*t:=by
 rw[adL,<- alu];congr 1;omega
def mX {n:Nat} (h:n<=17592186044416):n+1<FU:=by unfold FU;omega
abbrev Fit (l:List Int):Prop:=l.length<=17592186044416
def lO {x:Int} (h : -4611686018427387904<=x∧x<=4611686018427387904):IntKind.i64.wrap x=x:=wrap64 (by omega) (by omega)
def yj {α:Type} (o:Option α):(o.bind fun r=>some r)=o:=by cases o<;>rfl
def YH {l:List Int} (b:Fit l):∃r,aQ (qA l) (l.length:Int)=some r∧∃k:Nat,r=k∧k<=l.length∧(∀j (c:j<l.length),k<=j->l[j]=0)∧(∀h:0<k,∀d:k-1<l.length,l[k-1]≠0):=by
 unfold Fit at b;refine eB (I:=fun i s=>s=((l.length-i:Nat):Int)∧(∀j (c:j<l.length),l.length-i<=j->l[j]=0)) l.length _ ⟨rfl,fun j c h=>by omega⟩ (mX b) ?_;rintro i s m ⟨rfl,f⟩;generalize d:l.length-i=k at *;simp only[qA]
 by_cases g:0<k
 ·have a:k-1<l.length:=by omega
  have e:IntKind.i64.wrap ((k:Int)-1)=((k-1:Nat):Int):=by rw[lO (by omega)];omega
  rw[if_pos (by simp;omega),e,dI a,akO]
  by_cases n:l[k-1]=0
  ·left;grind
  grind
 ·right;exact⟨_,by simp_all,k,rfl,by omega,f,fun h=>absurd h g⟩
def aat {l:List Int} {k:Nat} (b:∀j (c:j<l.length),k<=j->l[j]=0):dv (l.drop k)=0:=by
 have:l.drop k=List.replicate (l.drop k).length 0:=by
  refine List.eq_replicate_of_mem fun x a =>?_;obtain⟨i,d,rfl⟩:=List.mem_iff_getElem.1 a;simp_all
 rw[this,FQ]
def B2 {l:List Int} (c:Fit l) (d:Dg l):fD l=some (bE (dv l).toNat):=by
 obtain⟨r,e,k,rfl,b,f,a⟩:=YH c;unfold fD;rw[e,akO,adZ b,akO];congr 1;have g:dv l=dv (l.take k):=by rw[lu l b,aat f];omega
 rw[g];refine (EO (d.take k) fun h =>?_).symm;grind
def E2 {l:List Int} {n:Nat} (a:Fit l) (b:Dg l) (c:dv l=n):fD l=some (bE n):=by
 rw[B2 a b,c];rfl
def gd (l:List Int) (i:Nat):Int:=if h:i<l.length then l[i] else 0
def VC {l:List Int} (h:Dg l) (i:Nat):0<=gd l i∧gd l i<1048576:=by
 unfold gd;split
 ·exact h.get _
 ·omega
def By {l:List Int} (i:Nat):dv (l.take (i+1))=dv (l.take i)+pw i*gd l i:=by
 unfold gd;split
 ·exact lW _
 ·rw[akC (by omega),akC (by omega)];simp
def Gk {l:List Int} {i:Nat} (h:l.length<=i):dv (l.take i)=dv l:=by rw[akC h]
def Zx {a b:List Int} (w:Dg a) (y:Dg b) (D:a.length<17592186044416) (g:b.length<=a.length) :
  ∃r,aQ (sD a b) (0,0,List.replicate (a.length+1) 0)=some r∧r.2.length=a.length+1∧Dg r.2∧(∀j (f:j<r.2.length),a.length<=j->r.2[j]=0)∧(0<=r.1∧r.1<=1)∧dv r.2+pw a.length*r.1=dv a+dv b:=by
 refine eB (I:=fun i s=>s.2.1=(i:Int)∧s.2.2.length=a.length+1∧Dg s.2.2∧(∀j (f:j<s.2.2.length),i<=j->s.2.2[j]=0)∧(0<=s.1∧s.1<=1)∧dv s.2.2+pw i*s.1=dv (a.take i)+dv (b.take i))
  a.length _ ⟨rfl,by simp,Dg.rep _,fun j f _=>by simp,by simp,by simp[FQ,dv]⟩ (mX (by omega)) ?_
 rintro i ⟨c,s,l⟩ E ⟨t,k,m,hz,u,v⟩;simp only at t k m hz u v;subst t;simp only[sD]
 by_cases d:i<a.length
 ·left;rw[if_pos (by simpa using d),dI d,akO];have F:=w.get d;have z:=VC y i;have A:(if decide ((i:Int)<(b.length:Int))=true then (P.idx b (i:Int)).bind fun n=>some (IntKind.i64.wrap ((IntKind.i64.wrap (c+a[i]))+n)) else some (IntKind.i64.wrap (c+a[i])))=some (c+a[i]+gd b i):=by
   by_cases e:i<b.length
   ·rw[if_pos (by simpa using e),dI e,akO];have:gd b i=b[i]:=by unfold gd;rw[dif_pos e]
    rw[this]at z ⊢;rw[lO (x:=c+a[i]) (by omega),lO (by omega)]
   ·rw[if_neg (by simpa using e)];have:gd b i=0:=by unfold gd;rw[dif_neg e]
    rw[this,lO (by omega)];simp
  rw[A,akO,dI (by omega),akO,RQ,akO,xk (by omega) (by omega)];have o:l[i]=0:=hz i (by omega) (ajo _);have B:IntKind.i64.wrap ((i:Int)+1)=((i+1:Nat):Int):=by rw[lO (by omega)];omega
  refine⟨d,_,rfl,B,by simpa using k,m.set _ (by omega),fun j f C =>?_,by simp only;omega,?_⟩
  ·grind
  ·simp only[Int.toNat_natCast];rw[xE (by omega),o,By,By];have p:gd a i=a[i]:=by unfold gd;rw[dif_pos d]
   rw[p];have G:=C1 i (c+a[i]+gd b i);grind
 ·right;have q:i=a.length:=by omega
  subst q;refine⟨_,by rw[if_neg (by simp)],k,m,fun j f h=>hz j f h,u,?_⟩;rw[v,Gk (ajo _),Gk g]
def add_eq {a b:List Int} (k:Dg a) (m:Dg b) (g:a.length<17592186044416) (s:b.length<17592186044416):tK a b=some (bE (dv a+dv b).toNat):=by
 have n:∀ {a b:List Int},Dg a->Dg b->a.length<17592186044416->b.length<=a.length ->
   ((Io 8 (IntKind.i64.wrap ((a.length:Int)+1)) (IntKind.i64.wrap ((a.length:Int)+1)) 0).bind fun t =>
    (aQ (sD a b) (0,0,t)).bind fun q=>match q with
    | (h,d) =>
     (P.idx d (a.length:Int)).bind fun u =>
     (fD (d.set ((a.length:Int)).toNat h)).bind fun i =>
     some i)=some (bE (dv a+dv b).toNat):=by
  intro a b k m g j;have e:IntKind.i64.wrap ((a.length:Int)+1)=((a.length+1:Nat):Int):=by rw[lO (by omega)];omega
  rw[e,mk0 (by omega),akO];obtain⟨⟨c,l⟩,v,w,o,p,x,r⟩:=Zx k m g j;rw[v];simp only[Option.bind_some]at w o p x r ⊢;have f:a.length<l.length:=by omega
  rw[dI f,akO,ake,yj];have y:dv (l.set a.length c)=dv a+dv b:=by
   rw[xE f,p _ f (ajo _),Int.sub_zero,r]
  rw[B2 (by simp[Fit];omega) (o.set _ (by omega)),y]
 unfold tK;grind
def xw {l:List Int} (h:Fit l):cm l=some l:=by
 unfold cm;rw[It (by simpa using h),akV]
def aaN {l:List Int} {i:Nat} (h:i<l.length):gd l i=l[i]:=by unfold gd;rw[dif_pos h]
def aaM {l:List Int} {i:Nat} (h:l.length<=i):gd l i=0:=by unfold gd;grind
def ab8 {a b:List Int} (t:Dg a) (w:Dg b) (y:Fit a) (m:b.length<=a.length) (z:dv b<=dv a) :
  ∃l,aQ (vM b a) (0,0,a)=some l∧l.length=a.length∧Dg l∧dv l=dv a-dv b:=by
 unfold Fit at y;refine eB (I:=fun i s=>s.2.1=(i:Int)∧s.2.2.length=a.length∧Dg s.2.2∧(∀j (u:j<s.2.2.length) (n:j<a.length),i<=j->s.2.2[j]=a[j])∧(0<=s.1∧s.1<=1)∧dv s.2.2+dv (b.take i)=dv a+pw i*s.1)
  a.length _ ⟨rfl,rfl,t,fun j u _ _=>rfl,by simp,by simp[dv]⟩ (mX (by omega)) ?_
 rintro i ⟨c,s,l⟩ G ⟨g,h,k,o,A,v⟩;simp only at g h k o A v;subst g;simp only[vM]
 by_cases d:i<a.length
 ·left;have e:i<l.length:=by omega
  rw[if_pos (by simpa using d),dI e,akO,o i e d (ajo _)];have H:=t.get d;have B:=VC w i;have C:(if decide ((i:Int)<(b.length:Int))=true then (P.idx b (i:Int)).bind fun p=>some (IntKind.i64.wrap ((IntKind.i64.wrap (a[i]-c))-p)) else some (IntKind.i64.wrap (a[i]-c)))=some (a[i]-c-gd b i):=by
   by_cases f:i<b.length
   ·rw[if_pos (by simpa using f),dI f,akO];rw[aaN f]at B ⊢;rw[lO (x:=a[i]-c) (by omega),lO (by omega)]
   ·rw[if_neg (by simpa using f),aaM (by omega),lO (by omega)];simp
  rw[C,akO,RQ,akO,xk (by omega) (by omega),acO (by omega) (by omega)];have D:IntKind.i64.wrap ((i:Int)+1)=((i+1:Nat):Int):=by rw[lO (by omega)];omega
  refine⟨d,_,rfl,D,by simpa using h,k.set _ (by omega),fun j u n E =>?_,by simp only;omega,?_⟩
  ·grind
  ·simp only[Int.toNat_natCast];rw[xE e,o i e d (ajo _),By];have J:=C1 i (a[i]-c-gd b i);have F:(a[i]-c-gd b i) / 1048576 % 2 = - ((a[i]-c-gd b i) / 1048576):=by omega
   grind
 ·right;have q:i=a.length:=by omega
  subst q;refine⟨l,by simp_all,h,k,?_⟩;rw[Gk m]at v;have g:=tO k;rw[h]at g;have r:c=0:=by
   grind
  subst r;omega
def sub_eq {a b:List Int} (f:Dg a) (g:Dg b) (e:Fit a) (c:b.length<=a.length) (d:dv b<=dv a):tL a b=some (bE (dv a-dv b).toNat):=by
 obtain⟨l,h,k,i,j⟩:=ab8 f g e c d;unfold tL;rw[xw e,akO,h,akO,yj,B2 (by omega) i,j]
def qt {l:List Int} {i:Nat} (h:i<l.length):dv (l.drop i)=l[i]+1048576*dv (l.drop (i+1)):=by
 rw[ala h,dv]
def agJ {x d:Int} (h:0<=x) (a:0<d) (b:x<4611686018427387904):Xt .i64 x d=some (x / d):=by
 unfold Xt;rw[if_neg (by omega),Int.tdiv_eq_ediv_of_nonneg h,lO];have:=alw h (Int.le_of_lt a);have:=Int.ediv_le_self d h;omega
def agV {x d:Int} (h:0<=x) (a:0<d):X7 .i64 x d=some (x % d):=by
 unfold X7;grind
def TY {a:List Int} {d:Int} (t:Dg a) (e:0<d∧d<=1048576) (u:Fit a) :
  ∃r,aQ (rP a d) (0,IntKind.i64.wrap ((a.length:Int)-1),List.replicate a.length 0)=some r∧r.2.length=a.length∧Dg r.2∧(0<=r.1∧r.1<d)∧dv a=d*dv r.2+r.1:=by
 unfold Fit at u;have v:IntKind.i64.wrap ((a.length:Int)-1)=(a.length:Int)-1:=lO (by omega);rw[v];refine eB (I:=fun i s=>s.2.1=((a.length-i:Nat):Int)-1∧s.2.2.length=a.length∧Dg s.2.2∧(0<=s.1∧s.1<d)∧dv (a.drop (a.length-i))=d*dv (s.2.2.drop (a.length-i))+s.1)
  a.length _ ⟨rfl,by simp,Dg.rep _,by simp;omega,by simp[dv]⟩ (mX (by omega)) ?_
 rintro i ⟨r,s,l⟩ z ⟨n,o,p,w,q⟩;simp only at n o p w q;subst n;generalize A:a.length-i=k at *;simp only[rP]
 by_cases B:0<k
 ·left;have b:k-1<a.length:=by omega
  have c:k-1<l.length:=by omega
  have x:((k:Int)-1)=((k-1:Nat):Int):=by omega
  have y:=t.get b;rw[x,if_pos (by simp),abS (by omega) (by omega),akO,dI b,akO,TM (by omega) (by omega) y,agJ (by omega) e.1 (by omega),akO,dI c,akO,agV (by omega) e.1,akO];have C:IntKind.i64.wrap (((k-1:Nat):Int)-1)=((k-1:Nat):Int)-1:=lO (by omega);have f:0<=1048576*r+a[k-1]:=by omega
  have g:0<=(1048576*r+a[k-1]) / d:=alw f (by omega);have h:(1048576*r+a[k-1]) / d<1048576:=by
   apply alx e.1;omega
  have j:=Int.emod_nonneg (1048576*r+a[k-1]) (show d≠0 by omega);have m:=aly (1048576*r+a[k-1]) e.1;refine⟨by omega,_,rfl,by grind,by simpa using o,p.set _ ⟨g,h⟩,⟨j,m⟩,?_⟩;simp only[Int.toNat_natCast];rw[show a.length-(i+1)=k-1 by omega,qt b,qt (l:=l.set (k-1) _) (i:=k-1) (by simpa using c),show k-1+1=k by omega,List.getElem_set_self,List.drop_set_of_lt (by omega),q];have:=alz (1048576*r+a[k-1]) d;grind
 simp_all
def RO {a:List Int} {d:Int} (g:Dg a) (h:0<d∧d<=1048576) (e:Fit a):pJ a d=some (bE (dv a / d).toNat,dv a % d):=by
 obtain⟨⟨r,l⟩,i,j,f,b,c⟩:=TY g h e;unfold pJ;rw[mk0 e,akO,i,akO];simp only at j f b c ⊢;rw[B2 (by omega) f,akO];have k:dv a / d=dv l:=by
  rw[c,Int.mul_comm,Int.add_comm,Int.add_mul_ediv_right _ _ (by omega),Int.ediv_eq_zero_of_lt b.1 b.2];omega
 have m:dv a % d=r:=by
  rw[c,Int.mul_comm,Int.add_comm,Int.add_mul_emod_self_right];exact Int.emod_eq_of_lt b.1 b.2
 rw[k,m]
def X9 {b l0:List Int} {x:Int} {i n:Nat} (p:Dg b) (q:0<=x∧x<1048576) (t:Dg l0) (u:l0.length=n) (F:i+b.length<n) (G:n<=17592186044416) (e:∀j (f:j<l0.length),i+b.length<=j->l0[j]=0) :
  ∃r,aQ (vL b (i:Int) x) (0,0,l0)=some r∧r.2.length=n∧Dg r.2∧(0<=r.1∧r.1<1048576)∧(∀j (f:j<r.2.length),i+b.length<=j->r.2[j]=0)∧dv r.2+pw (i+b.length)*r.1=dv l0+pw i*(x*dv b):=by
 refine eB (I:=fun k s=>s.2.1=(k:Int)∧s.2.2.length=n∧Dg s.2.2∧(0<=s.1∧s.1<1048576)∧(∀j (f:j<s.2.2.length),i+b.length<=j->s.2.2[j]=0)∧dv s.2.2+pw (i+k)*s.1=dv l0+pw i*(x*dv (b.take k)))
  b.length _ ⟨rfl,u,t,by simp,e,by simp[dv]⟩ (mX (by omega)) ?_
 rintro k ⟨c,s,l⟩ H ⟨h,m,g,v,e,w⟩;simp only at h m g v e w;subst h;simp only[vL]
 by_cases a:k<b.length
 ·left;have d:i+k<l.length:=by omega
  have y:IntKind.i64.wrap ((i:Int)+(k:Int))=((i+k:Nat):Int):=by rw[lO (by omega)];omega
  have o:=p.get a;have J:=g.get d;have z:0<=x*b[k]:=alA q.1 o.1;have A:x*b[k]<=1048575*1048575:=Int.mul_le_mul (by omega) (by omega) o.1 (by omega);rw[if_pos (by simpa using a),dI a,akO,y,dI d,akO,lO (x:=x*b[k]) (by omega),lO (x:=l[i+k]+x*b[k]) (by omega),lO (x:=l[i+k]+x*b[k]+c) (by omega),RQ,akO,xk (by omega) (by omega)];have B:IntKind.i64.wrap ((k:Int)+1)=((k+1:Nat):Int):=by rw[lO (by omega)];omega
  refine⟨a,_,rfl,B,by simpa using m,g.set _ (by omega),by simp only;omega,fun j f C =>?_,?_⟩
  ·grind
  ·simp only[Int.toNat_natCast];rw[xE d,lW a];have D:=C1 (i+k) (l[i+k]+x*b[k]+c);rw[alu (pw (i+k)),alu (pw (i+k))]at D;have K:pw i*(x*(dv (b.take k)+pw k*b[k]))=pw i*(x*dv (b.take k))+pw (i+k)*(x*b[k]):=by
    rw[alu,alu,M9];grind
   grind
 ·right;have E:k=b.length:=by omega
  simp_all
def X8 {a b:List Int} (w:Dg a) (y:Dg b) (z:a.length+b.length<=17592186044416) :
  ∃l,aQ (vK a b) (0,List.replicate (a.length+b.length) 0)=some l∧l.length=a.length+b.length∧Dg l∧dv l=dv a*dv b:=by
 refine eB (I:=fun i s=>s.1=(i:Int)∧s.2.length=a.length+b.length∧Dg s.2∧(∀j (g:j<s.2.length),i+b.length<=j->s.2[j]=0)∧dv s.2=dv (a.take i)*dv b)
  a.length _ ⟨rfl,by simp,Dg.rep _,fun j g _=>by simp,by simp[dv,FQ]⟩ (mX (by omega)) ?_
 rintro i ⟨s,l⟩ F ⟨h,k,o,p,q⟩;simp only at h k o p q;subst h;simp only[vK]
 by_cases d:i<a.length
 ·left;have A:=w.get d;obtain⟨⟨c,m⟩,B,r,t,u,f,v⟩:=X9 (i:=i) (n:=a.length+b.length) y A o k (by omega) z p;rw[if_pos (by simpa using d),dI d,akO,B,akO];simp only at r t u f v ⊢;have C:IntKind.i64.wrap ((i:Int)+(b.length:Int))=((i+b.length:Nat):Int):=by rw[lO (by omega)];omega
  have e:i+b.length<m.length:=by omega
  rw[C,dI e,akO,f _ e (ajo _),Int.zero_add,lO (x:=c) (by omega)];have D:IntKind.i64.wrap ((i:Int)+1)=((i+1:Nat):Int):=by rw[lO (by omega)];omega
  refine⟨d,_,rfl,D,by simpa using r,t.set _ u,fun j g E =>?_,?_⟩
  ·grind
  ·simp only[Int.toNat_natCast];rw[xE e,f _ e (ajo _),Int.sub_zero,v,q,lW d,Int.add_mul,Int.mul_assoc]
 grind
def mul_eq {a b:List Int} (d:Dg a) (f:Dg b) (c:a.length+b.length<=17592186044416):rO a b=some (bE (dv a*dv b).toNat):=by
 obtain⟨l,g,j,h,i⟩:=X8 d f c;unfold rO;have e:IntKind.i64.wrap ((a.length:Int)+(b.length:Int))=((a.length+b.length:Nat):Int):=by rw[lO (by omega)];omega
 rw[e,mk0 c,akO,g,akO,yj,B2 (by unfold Fit;omega) h,i]
def lT (x y:Int):Int:=if x<y then -1 else if y<x then 1 else 0
def Cb (x y:Int):gM x y=some (lT x y):=by
 unfold gM sf lT;grind
def OP {a b:List Int} (h:Dg a) (j:Dg b) (l:Fit a) (w:a.length=b.length):im a b=some (lT (dv a) (dv b)):=by
 unfold Fit at l;unfold im;rw[if_neg (by simp;omega)];have p:IntKind.i64.wrap ((a.length:Int)-1)=(a.length:Int)-1:=lO (by omega);rw[p];have key:∃r,aQ (oH a b) ((a.length:Int)-1)=some r∧(match r with | .inl _=>lT (dv a) (dv b)=0 | .inr x=>x=lT (dv a) (dv b)):=by
  refine eB (I:=fun i s=>s=((a.length-i:Nat):Int)-1∧a.drop (a.length-i)=b.drop (a.length-i)) a.length _ ⟨rfl,?_⟩ (mX l) ?_
  ·simp_all
  rintro i s y ⟨rfl,c⟩;generalize z:a.length-i=k at *;simp only[oH]
  by_cases A:0<k
  ·have e:k-1<a.length:=by omega
   have f:k-1<b.length:=by omega
   have q:((k:Int)-1)=((k-1:Nat):Int):=by omega
   rw[q,if_pos (by simp),dI e,akO,dI f,akO]
   by_cases d:a[k-1]=b[k-1]
   ·left;rw[if_neg (by simpa using d)];refine⟨by omega,_,rfl,by rw[lO (by omega)];omega,?_⟩;rw[show a.length-(i+1)=k-1 by omega,ala e,ala f,d,show k-1+1=k by omega,c]
   ·right;rw[if_pos (by simpa using d),Cb,akO];refine⟨_,rfl,?_⟩;simp only;have m:=lu a (i:=k) (by omega);have t:=lu b (i:=k) (by omega);have n:=lW e;have o:=lW f;rw[show k-1+1=k by omega]at n o;have u:=tO (h.take (k-1));have v:=tO (j.take (k-1));rw[ajE,alh (by omega)]at u v;have B:=ep (h.take (k-1));have C:=ep (j.take (k-1));have D:=th (k-1);rw[n]at m;rw[o]at t;rw[c]at m;unfold lT;rcases Int.lt_or_gt_of_ne d with g|g
    ·have:pw (k-1)*a[k-1]+pw (k-1)<=pw (k-1)*b[k-1]:=by
      have:pw (k-1)*(a[k-1]+1)<=pw (k-1)*b[k-1]:=als (by omega) (by omega);grind
     omega
    ·have:pw (k-1)*b[k-1]+pw (k-1)<=pw (k-1)*a[k-1]:=by
      have:pw (k-1)*(b[k-1]+1)<=pw (k-1)*a[k-1]:=als (by omega) (by omega);grind
     omega
  ·right;have:k=0:=by omega
   subst this;refine⟨.inl (),by simp_all,?_⟩;simp only[akD]at c;simp[c,lT]
 grind
def xy {m n:Nat} (h:(bE m).length<(bE n).length):m<n:=by
 have c:=lB m;have a:n≠0:=fun b=>by subst b;rw[eo]at h;simp at h
 have d:=Bb a;have e:=wc (i:=(bE m).length) (j:=(bE n).length-1) (by omega);omega
def gF {m n:Nat} (h:m<=n):(bE m).length<=(bE n).length:=by
 rcases aj1 (bE n).length (bE m).length with h1|h1
 ·have:=xy h1;omega
 ·exact h1
def z8 {m n:Nat} (b:Fit (bE m)) (c:Fit (bE n)):im (bE m) (bE n)=some (lT m n):=by
 by_cases a:(bE m).length=(bE n).length
 ·rw[OP (fJ m) (fJ n) b a,cT,cT]
 ·unfold im;rw[if_pos (by simp;omega),Cb,yj];unfold lT;rcases Nat.lt_or_gt_of_ne a with h|h
  ·have:=xy h;simp_all
  ·have:=xy h;grind
def Ng {u v:List Int} {g:Int} (w:Dg u) (B:Dg v) (C:0<=g∧g<=1048576) (D:Fit u) (E:v.length<=u.length) :
  ∃r,aQ (nw u v g) (0,0,u)=some r∧r.2.length=u.length∧Dg r.2∧(0<=r.1∧r.1<=1048576)∧dv r.2+g*dv v=dv u+pw u.length*r.1:=by
 unfold Fit at D;refine eB (I:=fun i s=>s.2.1=(i:Int)∧s.2.2.length=u.length∧Dg s.2.2∧(∀j (y:j<s.2.2.length) (f:j<u.length),i<=j->s.2.2[j]=u[j])∧(0<=s.1∧s.1<=1048576)∧dv s.2.2+g*dv (v.take i)=dv u+pw i*s.1)
  u.length _ ⟨rfl,rfl,w,fun j y _ _=>rfl,by simp,by simp[dv]⟩ (mX (by omega)) ?_
 rintro i ⟨c,s,l⟩ J ⟨z,e,h,k,A,m⟩;simp only at z e h k A m;subst z;simp only[nw]
 by_cases a:i<u.length
 ·left;have b:i<l.length:=by omega
  rw[if_pos (by simpa using a),dI b,akO,k i b a (ajo _)];have K:=w.get a;have n:=VC B i;have o:0<=g*gd v i:=alA C.1 n.1;have p:g*gd v i<=1048576*1048575:=Int.mul_le_mul (by omega) (by omega) n.1 (by omega);have F:(if decide ((i:Int)<(v.length:Int))=true then (P.idx v (i:Int)).bind fun q=>some (IntKind.i64.wrap ((IntKind.i64.wrap (u[i]-c))-(IntKind.i64.wrap (g*q)))) else some (IntKind.i64.wrap (u[i]-c)))=some (u[i]-c-g*gd v i):=by
   by_cases d:i<v.length
   ·rw[if_pos (by simpa using d),dI d,akO];rw[aaN d]at n o p ⊢;rw[lO (x:=u[i]-c) (by omega),lO (x:=g*v[i]) (by omega),lO (by omega)]
   ·rw[if_neg (by simpa using d),aaM (by omega),lO (by omega)];simp
  rw[F,akO,RQ,akO,xk (by omega) (by omega),lO (x:=0-_) (by omega)];have G:IntKind.i64.wrap ((i:Int)+1)=((i+1:Nat):Int):=by rw[lO (by omega)];omega
  refine⟨a,_,rfl,G,by simpa using e,h.set _ (by omega),fun j y f H =>?_,by simp only;omega,?_⟩
  ·grind
  ·simp only[Int.toNat_natCast];rw[xE b,k i b a (ajo _),By];have L:=C1 i (u[i]-c-g*gd v i);grind
 ·right;have t:i=u.length:=by omega
  subst t;refine⟨(c,l),by simp_all,e,h,A,?_⟩;rw[Gk E]at m;exact m
def Nh {u v:List Int} (o:Dg u) (t:Dg v) (w:Fit u) (y:v.length<=u.length) :
  ∃l,aQ (ny v u) (0,0,u)=some l∧l.length=u.length∧Dg l∧∃c,0<=c∧dv l+pw u.length*c=dv u+dv v:=by
 unfold Fit at w;refine eB (I:=fun i s=>s.2.1=(i:Int)∧s.2.2.length=u.length∧Dg s.2.2∧(∀j (p:j<s.2.2.length) (f:j<u.length),i<=j->s.2.2[j]=u[j])∧(0<=s.1∧s.1<=1)∧dv s.2.2+pw i*s.1=dv u+dv (v.take i))
  u.length _ ⟨rfl,rfl,o,fun j p _ _=>rfl,by simp,by simp[dv]⟩ (mX (by omega)) ?_
 rintro i ⟨c,s,l⟩ D ⟨q,e,g,h,r,k⟩;simp only at q e g h r k;subst q;simp only[ny]
 by_cases a:i<u.length
 ·left;have b:i<l.length:=by omega
  rw[if_pos (by simpa using a),dI b,akO,h i b a (ajo _)];have E:=o.get a;have z:=VC t i;have A:(if decide ((i:Int)<(v.length:Int))=true then (P.idx v (i:Int)).bind fun m=>some (IntKind.i64.wrap ((IntKind.i64.wrap (c+u[i]))+m)) else some (IntKind.i64.wrap (c+u[i])))=some (c+u[i]+gd v i):=by
   by_cases d:i<v.length
   ·rw[if_pos (by simpa using d),dI d,akO];rw[aaN d]at z ⊢;rw[lO (x:=c+u[i]) (by omega),lO (by omega)]
   ·rw[if_neg (by simpa using d),aaM (by omega),lO (by omega)];simp
  rw[A,akO,RQ,akO,xk (by omega) (by omega)];have B:IntKind.i64.wrap ((i:Int)+1)=((i+1:Nat):Int):=by rw[lO (by omega)];omega
  refine⟨a,_,rfl,B,by simpa using e,g.set _ (by omega),fun j p f C =>?_,by simp only;omega,?_⟩
  ·grind
  ·simp only[Int.toNat_natCast];rw[xE b,h i b a (ajo _),By];have F:=C1 i (c+u[i]+gd v i);grind
 ·right;have n:i=u.length:=by omega
  subst n;refine⟨l,by simp_all,e,g,c,r.1,?_⟩;rw[Gk y]at k;exact k
def Yo {u v:List Int} {g:Int} (q:Dg u) (f:Dg v) (w:Fit u) (r:v.length<=u.length) (x:0<dv v) (y:dv u / dv v<=g) (z:g<=dv u / dv v+1) (i:g<=1048576) :
  ∃l,ic u v g=some (l,dv u / dv v)∧l.length=u.length∧Dg l∧dv l=dv u % dv v:=by
 have A:0<=dv u / dv v:=alw (ep q) (by omega);obtain⟨⟨c,l⟩,B,b,e,C,D⟩:=Ng q f ⟨by omega,i⟩ w r;simp only at b e C D;have L:=alz (dv u) (dv v);have E:=Int.emod_nonneg (dv u) (show dv v≠0 by omega);have F:=aly (dv u) x;have j:=tO e;have G:=ep e;rw[b]at j;have M:=th u.length;have H:dv v<pw u.length:=Int.lt_of_lt_of_le (tO f) (wc r);unfold ic sG;rw[B,akO];simp only;rcases (show g=dv u / dv v∨g=dv u / dv v+1 by omega) with s|s
 ·have k:g*dv v=dv v*(dv u / dv v):=by grind
  have a:c=0:=by
   rcases (show c=0∨1<=c by omega) with h|h
   ·exact h
   ·have:pw u.length*1<=pw u.length*c:=als h (by omega);omega
  grind
 ·have k:g*dv v=dv v*(dv u / dv v)+dv v:=by grind
  have a:c≠0:=by
   grind
  obtain⟨m,I,J,n,d,N,K⟩:=Nh e f (by omega) (by omega);rw[if_neg (by simpa using a),I,akO,akO,if_pos (by simp;omega)];refine⟨m,by rw[lO (by omega),s];simp,by omega,n,?_⟩;rw[b]at K;have o:=tO n;have t:=ep n;rw[J,b]at o;have p:c=d:=by
   rcases Int.lt_trichotomy c d with h|h|h
   ·have:pw u.length*(c+1)<=pw u.length*d:=als (by omega) (by omega);grind
   ·exact h
   ·have:pw u.length*(d+1)<=pw u.length*c:=als (by omega) (by omega);grind
  subst p;omega
def Tv {v u:List Int} {s13:Int} {a b c T V W:Int} {n:Nat} (hn:2<=n) (e:v.length=n) (M:n<=17592186044416) (i:Nat) (N:s13=i) (O:i+n<=17592186044416)
  (p:P.idx v (((n-2:Nat)):Int)=some b) (q:P.idx u (((i+n-2:Nat)):Int)=some c)
  (b1:524288<=a∧a<1048576) (m:0<=b∧b<1048576) (Q:0<=c∧c<1048576) (t:0<=T) (R:T<1048576*1048576)
  (G:pw (n-2)*(a*1048576+b)<=V∧V<pw (n-2)*(a*1048576+b+1)) (hW:pw (n-2)*(T*1048576+c)<=W∧W<pw (n-2)*(T*1048576+c+1)) (w:W<1048576*V) :
  ∃g,aQ (vJ v s13 u a) (T / a,T % a)=some g∧W / V<=g∧g<=W / V+1∧g<=1048576:=by
 subst N;have hp:=th (n-2);have d:0<V:=by
  have:pw (n-2)*1<=pw (n-2)*(a*1048576+b):=als (by omega) (by omega);omega
 have y:0<=W:=by
  have:0<=pw (n-2)*(T*1048576+c):=alA (by omega) (by omega);omega
 have S:0<=W / V:=alw y (by omega);have U:W / V<1048576:=alx d w;have hm:=alz T a;have z:=Int.emod_nonneg T (show a≠0 by omega);have X:=aly T (show 0<a by omega);have Y:0<=T / a:=alw t (by omega);have A:T / a<=2097152:=by
  have:T / a<2097153:=alx (by omega) (by
   omega)
  omega
 have Z:∀g r:Int,g*a+r=T->W / V<=g->g*b>r*1048576+c->W / V<=g-1:=by
  intro g r o B C;have j:W<g*V:=by
   have k:g*(a*1048576+b)>=T*1048576+c+1:=by
    grind
   have e2:pw (n-2)*(T*1048576+c+1)<=pw (n-2)*(g*(a*1048576+b)):=als k (by omega);have H:g*(pw (n-2)*(a*1048576+b))<=g*V:=als G.1 (by omega);grind
  have:=alx d j;omega
 have D:∀g r:Int,g*a+r=T->0<=g->g<=1048576->g*b<=r*1048576+c->g<=W / V+1:=by
  intro g r o h0 hB C;have k:g*(a*1048576+b)<=T*1048576+c:=by
   grind
  have e2:g*V<=W+V:=by
   have f1:g*V<=g*(pw (n-2)*(a*1048576+b+1)):=als (by omega) h0;have f2:g*(pw (n-2)*(a*1048576+b+1))=pw (n-2)*(g*(a*1048576+b))+pw (n-2)*g:=by
    grind
   have f3:pw (n-2)*(g*(a*1048576+b))<=pw (n-2)*(T*1048576+c):=als k (by omega);have f4:pw (n-2)*g<=pw (n-2)*(a*1048576+b):=als (by omega) (by omega);omega
  have H:(g-1)*V<=W:=by grind
  have:=Int.le_ediv_of_mul_le d H;omega
 have f:W / V<=T / a:=by
  have k:W<(T / a+1)*V:=by
   have f1:T+1<=(T / a+1)*a:=by
    grind
   have f2:T*1048576+c+1<=(T / a+1)*(a*1048576+b):=by
    have g1:(T+1)*1048576<=(T / a+1)*a*1048576:=alB f1 (by omega);have g2:0<=(T / a+1)*b:=alA (by omega) m.1;grind
   have f3:pw (n-2)*(T*1048576+c+1)<=pw (n-2)*((T / a+1)*(a*1048576+b)):=als f2 (by omega);have f4:(T / a+1)*(pw (n-2)*(a*1048576+b))<=(T / a+1)*V:=als G.1 (by omega);grind
  have:=alx d k;omega
 refine BE (I:=fun (s:Int×Int)=>s.1*a+s.2=T∧W / V<=s.1∧s.1<=2097152∧0<=s.2) (μ:=fun (s:Int×Int)=>s.1.toNat) _ ⟨?_,f,A,z⟩ (by unfold FU;omega) ?_
 ·grind
 rintro⟨g,r⟩ ⟨o,B,C,j⟩;simp only at o B C j;have aa:0<=g*a:=alA (by omega) (by omega);simp only[vJ];have el:IntKind.i64.wrap ((v.length:Int)-2)=((n-2:Nat):Int):=by rw[e,lO (by omega)];omega
 have ei:IntKind.i64.wrap ((IntKind.i64.wrap ((i:Int)+(v.length:Int)))-2)=((i+n-2:Nat):Int):=by rw[e,lO (x:=(i:Int)+n) (by omega),lO (by omega)];omega
 rw[el,ei];have E:W / V<=g-1->∃h:Int×Int,(some (Sum.inl (IntKind.i64.wrap (g-1),IntKind.i64.wrap (r+a))):Option ((Int×Int)⊕Int))=some (.inl h)∧(h.1*a+h.2=T∧W / V<=h.1∧h.1<=2097152∧0<=h.2)∧h.1.toNat<g.toNat:=by
  intro ab;refine⟨_,rfl,?_⟩;rw[lO (x:=g-1) (by omega),lO (x:=r+a) (by omega)];grind
 by_cases l:g>=1048576
 ·rw[if_pos (by simpa using l),akO,if_pos rfl];grind
 ·rw[if_neg (by simpa using l)]
  by_cases J:r<1048576
  ·have K:0<=g*b:=alA (by omega) m.1;have F:g*b<=1048576*1048576:=Int.mul_le_mul (by omega) (by omega) m.1 (by omega);rw[if_pos (by simpa using J),p,akO,abS j (by omega),akO,q,akO,lO (x:=g*b) (by omega),TM j (by omega) Q,akO]
   by_cases L:g*b>1048576*r+c
   ·rw[if_pos (by simpa using L)];grind
   ·rw[if_neg (by simpa using L)];grind
  ·rw[if_neg (by simpa using J),akO,if_neg (by simp)];refine .inr ⟨g,rfl,B,D g r o (by omega) (by omega) ?_,by omega⟩;have:g*b<=1048575*1048575:=Int.mul_le_mul (by omega) (by omega) m.1 (by omega);omega
def afS {α:Type} {l:List α} {a b:Nat} (h:a<=b) (c:b<=l.length):EZ l (a:Int) (b:Int)=some ((l.drop a).take (b-a)):=by
 unfold EZ;simp_all
def ac4 {l:List Int} {n:Nat} (d:l.length=n) (f:2<=n) (a:Dg l) :
  pw (n-2)*((l[n-1]'(by omega))*1048576+l[n-2]'(by omega))<=dv l∧dv l<pw (n-2)*((l[n-1]'(by omega))*1048576+l[n-2]'(by omega)+1):=by
 have e:=lu l (i:=n-2) (by omega);rw[qt (by omega),qt (i:=n-2+1) (by omega),akY (by omega)]at e;have b:l[n-2+1]'(by omega)=l[n-1]'(by omega):=by congr 1;omega
 rw[b]at e;have g:=ep (a.take (n-2));have c:=tO (a.take (n-2));rw[ajE,alh (by omega)]at c;simp only[dv]at e;grind
def ac5 {l:List Int} {n:Nat} (g:l.length=n+1) (h:2<=n) (a:Dg l) :
  pw (n-2)*((1048576*(l[n]'(by omega))+l[n-1]'(by omega))*1048576+l[n-2]'(by omega))<=dv l∧dv l<pw (n-2)*((1048576*(l[n]'(by omega))+l[n-1]'(by omega))*1048576+l[n-2]'(by omega)+1):=by
 have e:=lu l (i:=n-2) (by omega);rw[qt (by omega),qt (i:=n-2+1) (by omega),qt (i:=n-2+1+1) (by omega),akY (by omega)]at e;have b:l[n-2+1]'(by omega)=l[n-1]'(by omega):=by congr 1;omega
 have c:l[n-2+1+1]'(by omega)=l[n]'(by omega):=by congr 1;omega
 rw[b,c]at e;have j:=ep (a.take (n-2));have d:=tO (a.take (n-2));rw[ajE,alh (by omega)]at d;simp only[dv]at e;have f:l[n-2]'(by omega)+1048576*(l[n-1]'(by omega)+1048576*(l[n]'(by omega)+1048576*0))=(1048576*(l[n]'(by omega))+l[n-1]'(by omega))*1048576+l[n-2]'(by omega):=by omega
 rw[f]at e;rw[alu (pw (n-2)) _ 1,Int.mul_one];omega
def aae {v o:List Int} {n m:Nat} (p:Dg v) (a:v.length=n) (F:2<=n) (G:524288<=v[n-1]'(by omega)) (hu:Dg o) (H:o.length=m+n) (hf:m+n<=17592186044416) (d:dv (o.drop m)<dv v) :
  ∃r,aQ (vH v) ((m:Int)-1,o,List.replicate m 0)=some r∧r.1.length=m+n∧Dg r.1∧r.2.length=m∧Dg r.2∧dv r.1+dv v*dv r.2=dv o∧dv r.1<dv v:=by
 have J:=tO p;rw[a]at J;refine eB (I:=fun i s=>s.1=((m-i:Nat):Int)-1∧s.2.1.length=m+n∧Dg s.2.1∧s.2.2.length=m∧Dg s.2.2∧(∀j (E:j<s.2.2.length),j<m-i->s.2.2[j]=0)∧dv s.2.1+dv v*dv s.2.2=dv o∧dv (s.2.1.drop (m-i))<dv v)
  m _ ⟨rfl,H,hu,by simp,Dg.rep _,fun j E _=>by simp,by simp[FQ],d⟩ (mX (by omega)) ?_
 rintro i ⟨s,u,q⟩ hi ⟨S,hl,b,t,x,K,he,d⟩;simp only at S hl b t x K he d;subst S;generalize hk:m-i=k at *;simp only[vH]
 by_cases h0:0<k
 ·left;have ek:((k:Int)-1)=((k-1:Nat):Int):=by omega
  rw[ek,if_pos (by simp)];have e1:IntKind.i64.wrap (((k-1:Nat):Int)+(v.length:Int))=((k-1+n:Nat):Int):=by rw[a,lO (by omega)];omega
  have e2:IntKind.i64.wrap (((k-1+n:Nat):Int)-1)=((k-1+n-1:Nat):Int):=by rw[lO (by omega)];omega
  have e3:IntKind.i64.wrap ((v.length:Int)-1)=((n-1:Nat):Int):=by rw[a,lO (by omega)];omega
  have e4:IntKind.i64.wrap (((k-1+n:Nat):Int)+1)=((k-1+n+1:Nat):Int):=by rw[lO (by omega)];omega
  have e5:IntKind.i64.wrap (((k-1:Nat):Int)-1)=((k-1:Nat):Int)-1:=lO (by omega);rw[e1,e2,e3,e4,e5];have U:k-1+n<u.length:=by omega
  have V:k-1+n-1<u.length:=by omega
  have W:k-1+n-2<u.length:=by omega
  have X:n-1<v.length:=by omega
  have y:n-2<v.length:=by omega
  have Y:=b.get U;have g2:=b.get V;have g3:=b.get W;have gv:=p.get X;have L:=p.get y;rw[dI U,akO,abS Y.1 (by omega),akO,dI V,akO,dI X,akO,TM Y.1 (by omega) g2,agJ (by omega) (by omega) (by omega),akO,agV (by omega) (by omega),akO,afS (by omega) (by omega),show k-1+n+1-(k-1)=n+1 by omega];generalize Z:(u.drop (k-1)).take (n+1)=w;have M:w.length=n+1:=by grind
  have c:Dg w:=by rw[<- Z];exact (b.drop _).take _
  have e:∀j (E:j<n+1),w[j]'(by omega)=u[k-1+j]'(by omega):=by
   grind
  have z:dv (u.drop (k+n))=0:=by
   have N:=lu (u.drop k) (i:=n) (by grind);rw[ak1]at N;have n1:=ep ((b.drop k).take n);have n2:=ep (b.drop (k+n));have hp:=th n;rcases (show dv (u.drop (k+n))=0∨1<=dv (u.drop (k+n)) by omega) with h|h
   ·exact h
   ·have:pw n*1<=pw n*dv (u.drop (k+n)):=als h (by omega);omega
  have hW:dv w=dv (u.drop (k-1)):=by
   have N:=lu (u.drop (k-1)) (i:=n+1) (by grind);rw[ak1,show k-1+(n+1)=k+n by omega,z,Z]at N;omega
  have aa:dv w=u[k-1]+1048576*dv (u.drop k):=by
   rw[hW,qt (by omega),show k-1+1=k by omega]
  have gk:=b.get (show k-1<u.length by omega);have A:dv w<1048576*dv v:=by omega
  have t2:=ac4 a F p;have t3:=ac5 M F c;rw[e n (by omega),e (n-1) (by omega),e (n-2) (by omega)]at t3;have a1:u[k-1+(n-1)]'(by omega)=u[k-1+n-1]'(by omega):=by congr 1;omega
  have a2:u[k-1+(n-2)]'(by omega)=u[k-1+n-2]'(by omega):=by congr 1;omega
  rw[a1,a2]at t3;obtain⟨g,q1,q2,q3,q4⟩:=Tv (s13:=((k-1:Nat):Int)) F a (by omega) (k-1) rfl (by omega) (dI y) (dI W) ⟨G,gv.2⟩ L g3 (T:=1048576*u[k-1+n]+u[k-1+n-1]) (by omega) (by omega) t2 t3 A;rw[q1,akO,akO];have f:0<dv v:=by
   have:=ep c;omega
  obtain⟨l,r1,r2,r3,r4⟩:=Yo c p (by unfold Fit;omega) (by omega) f q2 q3 q4;have O:k-1<q.length:=by omega
  rw[r1,akO,dI O,akO];simp only;have P:0<=dv w / dv v:=alw (ep c) (by omega);have Q:dv w / dv v<1048576:=alx f A;have B:=aly (dv w) f;simp only[Int.toNat_natCast];have C:dv (l++u.drop (k-1+n+1))=dv w % dv v:=by
   rw[lV,show k-1+n+1=k+n by omega,z,r4];omega
  have D:(u.take (k-1)).length=k-1:=by grind
  have R:dv (u.take (k-1)++(l++u.drop (k-1+n+1)))=dv (u.take (k-1))+pw (k-1)*(dv w % dv v):=by rw[lV,D,C]
  refine⟨by omega,_,rfl,by rw[show m-(i+1)=k-1 by omega],?_,(b.take _).append (r3.append (b.drop _)),by simpa using t,x.set _ ⟨P,Q⟩,fun j E ab =>?_,?_,?_⟩
  ·grind
  ·rw[List.getElem_set_ne (by omega)];exact K j (by simpa using E) (by omega)
  ·rw[R,xE O,K _ O (by omega),Int.sub_zero,alu];have s2:=lu u (i:=k-1) (by omega);rw[<- hW]at s2;have hm:=alz (dv w) (dv v);grind
  ·rw[show m-(i+1)=k-1 by omega,akX,D,akq,akD,akY (by omega),akV,C];exact B
 simp_all
def TX {v:List Int} {t:Int} {n:Nat} (b:v.length=n) (g:0<n) (k:n<=17592186044416) (c:v[n-1]'(by omega)=t) (d:1<=t) (l:t<1048576) :
  ∃s,aQ (vG v) 1=some s∧∃j:Nat,s=2 ^ j∧j<=19∧524288<=t*s∧t*s<1048576:=by
 refine eB (I:=fun i s=>s=2 ^ i∧t*s<1048576) 20 _ ⟨rfl,by omega⟩ (by unfold FU;omega) ?_;rintro i s m ⟨rfl,o⟩;have p:(0:Int)<2 ^ i:=Int.pow_pos (by decide);have f:(2:Int) ^ i<=t*2 ^ i:=by
  have:1*(2:Int) ^ i<=t*2 ^ i:=alB d (by omega);omega
 have a:i<=19:=by
  grind
 simp only[vG];have e:IntKind.i64.wrap ((v.length:Int)-1)=((n-1:Nat):Int):=by rw[b,lO (by omega)];omega
 rw[e,dI (by omega),akO,c,lO (x:=t*2 ^ i) (by omega)]
 by_cases h:t*2 ^ i<524288
 ·left;rw[if_pos (by simpa using h)];refine⟨by omega,_,rfl,by rw[lO (by omega),Int.pow_succ],?_⟩;rw[lO (by omega),<- Int.mul_assoc];omega
 grind
def div_eq {m n:Nat} (hn:n≠0) (al:(bE m).length<=17592186043904) (an:(bE n).length<=17592186043904):vF (bE m) (bE n)=some (bE (m / n),bE (m % n)):=by
 unfold vF;rw[z8 (by unfold Fit;omega) (by unfold Fit;omega),akO]
 by_cases q:m<n
 ·have:lT (m:Int) n<0:=by unfold lT;omega
  rw[if_pos (by simpa using this),xw (by unfold Fit;omega),akO,Nat.div_eq_of_lt q,akc q,eo]
 have:¬lT (m:Int) n<0:=by unfold lT;omega
 rw[if_neg (by simpa using this)];obtain⟨ao,aq⟩:=Bb hn;have r:=lB n
 by_cases h1:(bE n).length=1
 ·rw[if_pos (by simp;omega)];have ar:(n:Int)<1048576:=by rw[h1]at r;simpa [pw] using r
  have e:bE n=[(n:Int)]:=by
   rw[qD hn,Nat.div_eq_of_lt (by omega),eo,akc (by omega)]
  have ei:P.idx (bE n) 0=some (n:Int):=by rw[e];rfl
  rw[ei,akO,RO (fJ m) ⟨by omega,by omega⟩ (by unfold Fit;omega),akO,cT];have F:(m:Int) % n=((m % n:Nat):Int):=(Int.natCast_emod m n).symm;have G:((m:Int) / n).toNat=m / n:=by
   grind
  have au:m % n<n:=aj9 _ (by omega);simp only[F,G];rw[E2 (n:=m % n) (by simp[Fit]) (Dg.mk (by omega) Dg.nil) (by simp[dv]),akO]
 ·rw[if_neg (by simp;omega)];generalize hN:(bE n).length=N at *;have H:2<=N:=by omega
  have f:=fJ n;have gt:=f.get (show N-1<(bE n).length by omega);generalize ht:(bE n)[N-1]'(by omega)=t at gt;have a:=lu (bE n) (i:=N-1) (by omega);rw[cT,qt (by omega),akY (by omega),ht]at a;simp only[dv,Int.mul_zero,Int.add_zero]at a;have I:=ep (f.take (N-1));have J:=tO (f.take (N-1));rw[ajE,alh (by omega)]at J;have av:=th (N-1);have K:1<=t:=by
   grind
  obtain⟨s,L,j,v,hj,O,g⟩:=TX hN (by omega) (by omega) ht K gt.2;have R:(2:Int) ^ j<=524288:=by
   have:∀j:Nat,j<=19->(2:Int) ^ j<=524288:=by decide
   exact this j hj
  have T:(0:Int)<2 ^ j:=Int.pow_pos (by decide);have V:(t+1)*s<=1048576:=by
   have W:(1048576:Int)=2 ^ (20-j)*2 ^ j:=by rw[<- Int.pow_add,Nat.sub_add_cancel (by omega)];rfl
   rw[W]at g ⊢;rw[v]at g ⊢;have:t<2 ^ (20-j):=Int.lt_of_mul_lt_mul_right g (by omega);exact alB (by omega) (by omega)
  rw[<- v]at T R;obtain⟨S,rfl⟩:∃S:Nat,s=S:=⟨s.toNat,by omega⟩;have w:Dg [(S:Int)]:=Dg.mk (by omega) Dg.nil;have b:dv [(S:Int)]=S:=by simp[dv]
  rw[L,akO,mul_eq (fJ m) w (by simp;omega),akO,cT,b];have em:((m:Int)*S).toNat=m*S:=by omega
  have en:((n:Int)*S).toNat=n*S:=by omega
  rw[em];have aw:(bE (m*S)).length<=(bE m).length+1:=by
   apply nX;rw[mv,alC];have l:=lB m;have:(m:Int)*S<=m*1048576:=als (by omega) (by omega);omega
  have hU:∃u,((if ((((bE (m*S)++[0]).length:Int))==((bE m).length:Int))=true then (ou 8 (bE (m*S)++[0]) [0]).bind fun X=>some X else some (bE (m*S)++[0]))=some u)∧Dg u∧dv u=(m*S:Nat)∧dv u<pw (u.length-1)∧(bE (m*S)).length+1<=u.length∧u.length<=(bE m).length+3:=by
   have d1:Dg (bE (m*S)++[0]):=(fJ _).append (Dg.mk (by omega) Dg.nil);have v1:dv (bE (m*S)++[0])=(m*S:Nat):=by rw[lV,cT];simp[dv]
   have v2:=lB (m*S);split
   ·rw[It (by simp;omega),akO];refine⟨_,rfl,d1.append (Dg.mk (by omega) Dg.nil),by rw[lV,v1];simp[dv],?_,by simp,by simp;omega⟩;rw[lV,v1];simp only[dv,akn,List.length_cons,List.length_nil];have:=wc (i:=(bE (m*S)).length) (j:=(bE (m*S)).length+1) (by omega);grind
   grind
  obtain⟨u,Y,y,Z,ax,ay,az⟩:=hU;rw[It (by simp;omega),akO,mul_eq (fJ n) w (by simp;omega),akO,cT,b,en,Y,akO];have ai:524288*pw (N-1)<=((n*S:Nat):Int):=by
   rw[alC,a,Int.add_mul];have l:0<=dv ((bE n).take (N-1))*S:=alA I (by omega);have z:pw (N-1)*524288<=pw (N-1)*(t*S):=als O (by omega);grind
  have A:((n*S:Nat):Int)<pw N:=by
   have a0:pw N=1048576*pw (N-1):=by rw[<- mv];congr 1;omega
   rw[a0,alC,a];have l:(dv ((bE n).take (N-1))+pw (N-1)*t+1)*S<=(pw (N-1)*(t+1))*S:=alB (by grind) (by omega);have z:pw (N-1)*((t+1)*S)<=pw (N-1)*1048576:=als V (by omega);grind
  have B:(bE (n*S)).length=N:=by
   have l:=nX A;rcases aj1 (bE (n*S)).length N with h|h
   ·have z:=lB (n*S);have D:=wc (i:=(bE (n*S)).length) (j:=N-1) (by omega);omega
   ·omega
  have aa:524288<=(bE (n*S))[N-1]'(by omega):=by
   have l:=lu (bE (n*S)) (i:=N-1) (by omega);rw[cT,qt (by omega),akY (by omega)]at l;simp only[dv,Int.mul_zero,Int.add_zero]at l;have z:=tO ((fJ (n*S)).take (N-1));rw[ajE,alh (by omega)]at z;have D:pw (N-1)*524288<pw (N-1)*((bE (n*S))[N-1]'(by omega)+1):=by grind
   have:=Int.lt_of_mul_lt_mul_left D (by omega);omega
  have aj:N+1<=u.length:=by
   have:n*S<=m*S:=aj2 _ (by omega);have:=gF this;omega
  obtain⟨M,hM⟩:∃M,u.length=M+N:=⟨u.length-N,by omega⟩;have e1:IntKind.i64.wrap ((u.length:Int)-((bE (n*S)).length:Int))=(M:Int):=by rw[B,hM,lO (by omega)];omega
  rw[e1,mk0 (by omega),akO,List.length_replicate,lO (x:=(M:Int)-1) (by omega)];have ab:dv (u.drop M)<dv (bE (n*S)):=by
   rw[cT];have l:=lu u (i:=M) (by omega);have z:=ep (y.take M);have D:pw M*dv (u.drop M)<pw M*pw (N-1):=by
    rw[<- M9,show M+(N-1)=u.length-1 by omega];omega
   have:=Int.lt_of_mul_lt_mul_left D (by have:=th M;omega);omega
  obtain⟨⟨U,Q⟩,r1,r2,r3,r4,r5,r6,r7⟩:=aae (fJ (n*S)) B H aa y hM (by omega) ab;simp only at r2 r3 r4 r5 r6 r7;rw[r1,akO];simp only;rw[cT,Z]at r6;rw[cT]at r7;have aA:=ep r3;have aB:=ep r5;have hS:0<S:=by omega
  have ad:0<n*S:=Nat.mul_pos (by omega) hS;obtain⟨o,p⟩:∃k:Nat,dv U=k:=⟨(dv U).toNat,by omega⟩;obtain⟨E,C⟩:∃k:Nat,dv Q=k:=⟨(dv Q).toNat,by omega⟩;rw[p,C]at r6;rw[p]at r7;have c:o+n*S*E=m*S:=by
   omega
  have d:o<n*S:=by omega
  have ae:E=m / n:=by
   have:m*S / (n*S)=E:=by
    rw[<- c,Nat.add_mul_div_left _ _ ad,Nat.div_eq_of_lt d,akl]
   rw[<- this,Nat.mul_div_mul_right _ _ hS]
  have ag:o=(m % n)*S:=by
   have:m*S % (n*S)=o:=by rw[<- c,Nat.add_mul_mod_self_left,akc d]
   rw[<- this,Nat.mul_mod_mul_right]
  rw[E2 (n:=o) (by unfold Fit;omega) r3 p,akO];have ah:(bE o).length<=N:=nX (by omega);rw[RO (fJ o) ⟨by omega,by omega⟩ (by unfold Fit;omega),akO,E2 (n:=E) (by unfold Fit;omega) r5 C,akO,cT,ae,ag];have:((((m % n)*S:Nat):Int) / (S:Int)).toNat=m % n:=by
   rw[alC,Int.mul_ediv_cancel _ (by omega)];rfl
  rw[this]
def iT (x:Int):aL:=aL.mk x.sign (bE x.natAbs)
def Ln (x:Int):Nat:=(bE x.natAbs).length
def eX:Nat:=4398046511104
def sw:Nat:=17592186043904
def AY {n:Nat} (h:n<=eX):n<=sw:=ajq h (by decide)
def Qz:iT 0=aL.mk 0 []:=by unfold iT;rw[show (0:Int).natAbs=0 from rfl,eo];rfl
def VZ {x y:Int} (h:iT x=iT y):x=y:=by
 unfold iT at h;simp only[aL.mk.injEq]at h;have:=Z8 h.2;grind
def NV {x:Int} {k:Nat} (h:(x.natAbs:Int)<pw k):Ln x<=k:=nX h
def VW (x:Int):(x.natAbs:Int)<pw (Ln x):=lB _
def UG {x y:Int} (h:x.natAbs<=y.natAbs):Ln x<=Ln y:=gF h
def L2 (x:Int):Ln (-x)=Ln x:=by unfold Ln;rw[Int.natAbs_neg]
def Sx (x y:Int):Ln (x+y)<=max (Ln x) (Ln y)+1:=by
 apply NV;have a:=VW x;have b:=VW y;have c:=wc (i:=Ln x) (j:=max (Ln x) (Ln y)) (by omega);have d:=wc (i:=Ln y) (j:=max (Ln x) (Ln y)) (by omega);have e:=Int.natAbs_add_le x y;rw[mv];omega
def lk (x y:Int):Ln (x*y)<=Ln x+Ln y:=by
 apply NV;have c:=VW x;have a:=VW y;rw[Int.natAbs_mul,alC,M9];have b:=th (Ln x)
 calc (x.natAbs:Int)*y.natAbs<=pw (Ln x)*y.natAbs:=alB (by omega) (by omega)
  _<pw (Ln x)*pw (Ln y):=Int.mul_lt_mul_of_pos_left a b
def NW {x:Int} (h:x.natAbs<1048576):Ln x<=1:=NV (by rw[mv,tZ];omega)
instance (l:List Int):Decidable (Dg l):=by unfold Dg;infer_instance
def okB (b:aL):Bool:=decide (Dg b.aa)&&(match b.aa.getLast? with|none=>b.aq==0|some d=>(b.aq==1||b.aq == -1)&&d != 0)
def BN {b:aL} : okB b=true↔∃x,b=iT x:=by
 obtain⟨s,l⟩:=b;unfold okB;simp only[ajV,decide_eq_true_eq];constructor
 ·rintro⟨i,h⟩;cases f:l.getLast? with
  | none =>
   rw[f]at h;have:l=[]:=List.getLast?_eq_none_iff.1 f;subst this;exact⟨0,by rw[Qz];simpa using h⟩
  | some d =>
   rw[f]at h;simp only[ajV,Bool.or_eq_true,beq_iff_eq,bne_iff_ne]at h;have a:l≠[]:=by grind
   have c:∀h:l≠[],l.getLast h≠0:=by
    grind
   have e:=EO i c;have h0:(dv l).toNat≠0:=by
    intro h0;rw[h0,eo]at e;exact a e.symm
   have j:=ep i;refine⟨s*dv l,?_⟩;unfold iT;grind
 ·rintro⟨x,g⟩;unfold iT at g;simp only[aL.mk.injEq]at g;obtain⟨rfl,rfl⟩:=g;refine⟨fJ _,?_⟩
  by_cases h0:x=0
  ·subst h0;simp[eo]
  ·have a:bE x.natAbs≠[]:=fun h=>h0 (by have:=xz.1 h;omega);rw[List.getLast?_eq_some_getLast a];have k:=Xo _ a;grind
def TE (x:Int):okB (iT x)=true:=BN.2 ⟨x,rfl⟩
def HI {b:aL} (h:Fit b.aa):dD b=some (okB b):=by
 obtain⟨s,l⟩:=b;simp only[Fit]at h;have key:∃r,aQ (rN ⟨s,l⟩) 0=some r∧(match r with | .inl _=>Dg l | .inr x=>x=false∧¬Dg l):=by
  refine eB (I:=fun i s=>s=(i:Int)∧Dg (l.take i)) l.length _ ⟨rfl,by simpa using Dg.nil⟩ (mX h) ?_;rintro i s k ⟨rfl,j⟩;simp only[rN]
  by_cases a:i<l.length
  ·rw[if_pos (by simpa using a),dI a,akO]
   by_cases f:l[i]<0
   ·right;exact⟨.inr false,by simp_all,rfl,fun g=>by have:=g.get a;omega⟩
   ·by_cases c:l[i]>1048575
    ·right;exact⟨.inr false,by simp_all,rfl,fun g=>by have:=g.get a;omega⟩
    ·left;refine⟨a,_,by rw[if_neg (by simpa using f),if_neg (by simpa using c)],by rw[lO (by omega)];omega,?_⟩;have e:l.take (i+1)=l.take i++[l[i]]:=by simp_all
     rw[e];exact j.append (Dg.mk (by omega) Dg.nil)
  ·right;have:i=l.length:=by omega
   simp_all
 obtain⟨r,f,c⟩:=key;unfold dD okB;rw[f,akO];cases r with
 | inr x =>
  simp_all
 | inl u =>
  simp only at c ⊢;simp only[c,decide_true,akF]
  by_cases d:l=[]
  ·subst d;simp
  ·have m:0<l.length:=ak4.2 d;have e:IntKind.i64.wrap ((l.length:Int)-1)=((l.length-1:Nat):Int):=by rw[lO (by omega)];omega
   rw[if_neg (by simpa using d),e,dI (by omega),List.getLast?_eq_some_getLast d,List.getLast_eq_getElem];grind
def ju {x:Int} (h:Ln x<=17592186044416):dD (iT x)=some true:=by
 rw[HI (show Fit (iT x).aa from h),TE]
def ze {s:Int} {l:List Int} (x:Int) (a:Fit l) (b:Dg l) (c:dv l=x.natAbs) (d:x≠0->s=x.sign):ec s l=some (iT x):=by
 unfold ec;rw[E2 a b c,akO]
 by_cases h0:x=0
 ·subst h0;rw[show (0:Int).natAbs=0 from rfl,eo,Qz];rfl
 ·have:bE x.natAbs≠[]:=fun h=>h0 (by have:=xz.1 h;omega);rw[if_neg (by simpa using this),d h0];rfl
def oI (b:aL):fC true b=some (b,0):=rfl
def adX (x:Int):x.sign = -1∨x.sign=0∨x.sign=1:=by
 grind
def Sy {x:Int} (h:Ln x<=eX):rM (iT x)=some (iT (-x)):=by
 unfold rM;have b:eX=4398046511104:=rfl;rw[ju (by omega),akO];simp only[akE,ajT,if_false];have a:Fit (iT x).aa:=by unfold Fit;show Ln x<=_;omega
 rw[xw a,akO,ze (-x) a (fJ _) (by show dv (bE _)=_;rw[cT,Int.natAbs_neg]),akO];intro c;show IntKind.i64.wrap (0-x.sign)=_;rw[lO (by grind),Int.sign_neg,Int.zero_sub]
def aeg (s t:Int):xx [s,t]=some (if s≠0 then s else t):=by
 have key:∃r,aQ (yT [s,t]) 0=some r∧(match r with | .inl _=>s=0∧t=0 | .inr x=>x=if s≠0 then s else t):=by
  refine eB (I:=fun i j=>j=(i:Int)∧(1<=i->s=0)∧(2<=i->t=0)) 2 _ ⟨rfl,by omega,by omega⟩ (by unfold FU;omega) ?_;rintro i j c ⟨rfl,a,b⟩;simp only[yT];rcases (show i=0∨i=1∨i=2 by omega) with rfl|rfl|rfl
  ·rw[if_pos (by simp)];show _∨∃r,((some s).bind _=_)∧_;rw[show P.idx [s,t] ((0:Nat):Int)=some s from rfl,akO]
   by_cases hs:s=0
   ·left;exact⟨by omega,_,by rw[if_neg (by simpa using hs)],by rw[lO (by omega)];rfl,fun _=>hs,by omega⟩
   simp_all
  ·have hs:=a (by omega);rw[if_pos (by simp),show P.idx [s,t] ((1:Nat):Int)=some t from rfl,akO]
   by_cases ht:t=0
   ·left;exact⟨by omega,_,by rw[if_neg (by simpa using ht)],by rw[lO (by omega)];rfl,fun _=>hs,fun _=>ht⟩
   simp_all
  simp_all
 obtain⟨r,a,b⟩:=key;unfold xx;grind
def BV (x:Int):x.sign=1∧x=x.natAbs∧0<x∨x.sign = -1∧x = -x.natAbs∧x<0∨x.sign=0∧x=0:=by
 grind
def sn {x:Int} {s:Int} {n:Nat} (a:n=x.natAbs) (b:x≠0->s=x.sign) (c:n≠0->(bE n).length<=17592186044416):ec s (bE n)=some (iT x):=by
 subst a;refine ze x ?_ (fJ _) (cT _) b;unfold Fit
 by_cases h:x.natAbs=0
 ·rw[h,eo];simp
 ·exact c h
def ae4 {x y:Int} (k:Ln x<=eX) (l:Ln y<=eX):yN (iT x) (iT y)=some (iT (x+y),0):=by
 have m:eX=4398046511104:=rfl;have f:=Sx x y;unfold yN;rw[ju (by omega),akO];simp only[akE,ajT,if_false];rw[ju (by omega),akO,akO];simp only[akE,ajT,if_false];show (if decide (IntKind.i64.wrap (x.sign*y.sign)>=0)=true then _ else _)=_;have a:(iT x).aa=bE x.natAbs:=rfl;have b:(iT y).aa=bE y.natAbs:=rfl;have c:(iT x).aq=x.sign:=rfl;have d:(iT y).aq=y.sign:=rfl;rw[a,b,c,d];have n:(bE x.natAbs).length<=4398046511104:=by show Ln x<=_;omega
 have o:(bE y.natAbs).length<=4398046511104:=by show Ln y<=_;omega
 have p:=BV x;have q:=BV y;have g:IntKind.i64.wrap (x.sign*y.sign)=x.sign*y.sign:=by
  apply lO;grind
 rw[g]
 by_cases e:x.sign*y.sign>=0
 ·rw[if_pos (by simpa using e),aeg,akO,add_eq (fJ _) (fJ _) (by omega) (by omega),akO,cT,cT];have h:((x.natAbs:Int)+y.natAbs).toNat=(x+y).natAbs:=by
   grind
  rw[h,sn (x:=x+y) rfl ?_ (fun _=>by show Ln (x+y)<=_;omega),akO,oI,akO];grind
 ·rw[if_neg (by simpa using e),z8 (by unfold Fit;omega) (by unfold Fit;omega),akO];have i:x.sign=1∧y.sign = -1∧0<x∧y<0∨x.sign = -1∧y.sign=1∧x<0∧0<y:=by
   grind
  by_cases j:x.natAbs<y.natAbs
  ·have:lT (x.natAbs:Int) y.natAbs<0:=by unfold lT;omega
   rw[if_pos (by simpa using this),sub_eq (fJ _) (fJ _) (by unfold Fit;omega) (gF (by omega)) (by rw[cT,cT];omega),akO,cT,cT];rw[sn (x:=x+y) (by omega) ?_ (fun _=>by rw[show ((y.natAbs:Int)-x.natAbs).toNat=(x+y).natAbs by omega];show Ln (x+y)<=_;omega),akO,oI,akO];grind
  ·have:¬lT (x.natAbs:Int) y.natAbs<0:=by unfold lT;omega
   rw[if_neg (by simpa using this),sub_eq (fJ _) (fJ _) (by unfold Fit;omega) (gF (by omega)) (by rw[cT,cT];omega),akO,cT,cT];rw[sn (x:=x+y) (by omega) ?_ (fun _=>by rw[show ((x.natAbs:Int)-y.natAbs).toNat=(x+y).natAbs by omega];show Ln (x+y)<=_;omega),akO,oI,akO];grind
def ae5 {x y:Int} (h:Ln x<=eX) (i:Ln y<=eX):yP (iT x) (iT y)=some (iT (x*y),0):=by
 have j:eX=4398046511104:=rfl;have e:=lk x y;unfold yP;rw[ju (by omega),akO];simp only[akE,ajT,if_false];rw[ju (by omega),akO,akO];simp only[akE,ajT,if_false];have a:(iT x).aa=bE x.natAbs:=rfl;have b:(iT y).aa=bE y.natAbs:=rfl;have c:(iT x).aq=x.sign:=rfl;have d:(iT y).aq=y.sign:=rfl;rw[a,b,c,d];have k:(bE x.natAbs).length<=4398046511104:=by show Ln x<=_;omega
 have l:(bE y.natAbs).length<=4398046511104:=by show Ln y<=_;omega
 have f:IntKind.i64.wrap (x.sign*y.sign)=(x*y).sign:=by
  rw[Int.sign_mul];apply lO;grind
 rw[f,mul_eq (fJ _) (fJ _) (by omega),akO,cT,cT];have g:((x.natAbs:Int)*y.natAbs).toNat=(x*y).natAbs:=by rw[Int.natAbs_mul,<- alC];rfl
 rw[g,sn (x:=x*y) rfl (fun _=>rfl) (fun _=>by show Ln (x*y)<=_;omega),akO,oI,akO]
def pf {x y:Int} (a:Ln x<=eX) (b:Ln y<=eX):cQ (iT x) (iT y)=some (iT (x*y)):=by
 unfold cQ;rw[ae5 a b];rfl
def Y3 {x y:Int} (o:Ln x<=eX) (p:Ln y<=eX) (g:0<y) (j:y∣x):rL (iT x) (iT y)=some (iT (x / y),iT 0,0):=by
 have q:eX=4398046511104:=rfl;unfold rL;rw[ju (by omega),akO];simp only[akE,ajT,if_false];rw[ju (by omega),akO,akO];simp only[akE,ajT,if_false];have a:(iT x).aa=bE x.natAbs:=rfl;have b:(iT y).aa=bE y.natAbs:=rfl;have c:(iT x).aq=x.sign:=rfl;have d:(iT y).aq=1:=alE g;rw[a,b,c,d];have r:(bE x.natAbs).length<=4398046511104:=by show Ln x<=_;omega
 have s:(bE y.natAbs).length<=4398046511104:=by show Ln y<=_;omega
 have k:=gF (Nat.div_le_self x.natAbs y.natAbs);obtain⟨z,rfl⟩:=j;have e:y*z / y=z:=Int.mul_ediv_cancel_left _ (by omega);have l:(y*z).natAbs=y.natAbs*z.natAbs:=Int.natAbs_mul _ _;have i:(y*z).natAbs / y.natAbs=z.natAbs:=by rw[l,Nat.mul_div_cancel_left _ (by omega)]
 have m:(y*z).natAbs % y.natAbs=0:=by simp_all
 have f:(y*z).sign=z.sign:=by rw[Int.sign_mul,alE g,Int.one_mul]
 rw[if_neg (by decide),div_eq (by omega) (by omega) (by omega),akO,Int.mul_one,f,lO (x:=z.sign) (by grind),e,i,m,eo];rw[i]at k;have n:(if decide (z.sign<0)=true then some (decide ((([]:List Int).length:Int)>0)) else some false)=some false:=by split<;>rfl
 simp only[n,Option.bind_some,ajT,if_false];rw[sn (x:=z) rfl (fun _=>rfl) (fun _=>by omega),akO];have:ec z.sign []=some (iT 0):=ze 0 (by simp[Fit]) Dg.nil rfl (fun h=>absurd rfl h);simp_all
def lg (n:Nat):Nat:=if n=0 then 0 else n.log2+1
def agU {r x:Nat} (h:2*r<x):lg r<lg x:=by
 unfold lg;rw[if_neg (show x≠0 by omega)]
 by_cases a:r=0
 ·simp_all
 ·rw[if_neg a];have b:=Nat.log2_self_le a;have c:=@Nat.lt_log2_self x;have:2 ^ (r.log2+1)<2 ^ (x.log2+1):=by omega
  have:=(Nat.pow_lt_pow_iff_right (by decide:1<2)).1 this;omega
def aeO {n k:Nat} (h:(n:Int)<pw k):lg n<=20*k:=by
 unfold lg
 by_cases a:n=0
 ·simp_all
 ·rw[if_neg a];have:n<2 ^ (20*k):=by
   have:pw k=((2 ^ (20*k):Nat):Int):=by
    unfold pw;rw[Nat.pow_mul,Int.natCast_pow];rfl
   omega
  have:=(Nat.log2_lt a).2 this;omega
def aaL {a b:Nat} (g:(bE a).length<=sw) (i:(bE b).length<=sw):aQ sC (bE a,bE b)=some (bE (Nat.gcd a b)):=by
 have p:sw=17592186043904:=rfl;have key:∃r,aQ sC (bE a,bE b)=some r∧r=bE (Nat.gcd a b):=by
  have q:=aeO (lB a);have t:=aeO (lB b)
  let c:List Int->Nat:=fun l=>(dv l).toNat
  have d:∀n,c (bE n)=n:=fun n=>by show (dv (bE n)).toNat=n;rw[cT];rfl
  refine BE (I:=fun (s:List Int×List Int)=>∃x y,s=(bE x,bE y)∧Nat.gcd x y=Nat.gcd a b∧(bE x).length<=sw∧(bE y).length<=sw)
   (μ:=fun (s:List Int×List Int)=>lg (c s.1)+lg (c s.2)+(if c s.1<c s.2 then 1 else 0)) _ ⟨a,b,rfl,rfl,g,i⟩ (by simp only[d];unfold FU;split<;>omega) ?_
  rintro _ ⟨x,y,rfl,j,u,k⟩;simp only[sC]
  by_cases h0:y=0
  ·right;subst h0;refine⟨_,by rw[eo,if_neg (by simp)],?_⟩;simp_all
  ·left;have f:0<(bE y).length:=ak4.2 (fun h=>h0 (xz.1 h));rw[if_pos (by simpa using f),div_eq h0 (by omega) (by omega),akO];have m:=aj9 x (Nat.pos_of_ne_zero h0);refine⟨_,rfl,⟨y,x % y,rfl,?_,k,?_⟩,?_⟩
   ·rw[<- j,Nat.gcd_comm y,<- Nat.gcd_rec,Nat.gcd_comm]
   ·have:=gF (Nat.mod_le x y);omega
   ·simp only[d];rw[if_neg (by omega)]
    by_cases e:x<y
    ·rw[if_pos e,akc e];omega
    ·rw[if_neg e];have:lg (x % y)<lg x:=by
      apply agU;have v:=Nat.div_add_mod x y;have o:1<=x / y:=(Nat.one_le_div_iff (by omega)).2 (by omega);have w:y*1<=y*(x / y):=Nat.mul_le_mul_left _ o;omega
     omega
 simp_all
def Y7 {x y:Int} (d:Ln x<=sw) (e:Ln y<=sw):tJ (iT x) (iT y)=some (iT (Int.gcd x y),0):=by
 have f:sw=17592186043904:=rfl;unfold tJ;rw[ju (by omega),akO];simp only[akE,ajT,if_false];rw[ju (by omega),akO,akO];simp only[akE,ajT,if_false];have a:(iT x).aa=bE x.natAbs:=rfl;have b:(iT y).aa=bE y.natAbs:=rfl;rw[a,b];have g:(bE x.natAbs).length<=17592186043904:=by show Ln x<=_;omega
 have i:(bE y.natAbs).length<=17592186043904:=by show Ln y<=_;omega
 have j:(bE (Nat.gcd x.natAbs y.natAbs)).length<=17592186043904:=by
  by_cases h:y.natAbs=0
  ·simp_all
  ·have:=gF (Nat.gcd_le_right x.natAbs (Nat.pos_of_ne_zero h));omega
 rw[xw (by unfold Fit;omega),akO,aaL (by omega) (by omega),akO,xw (by unfold Fit;omega),akO];have c:Nat.gcd x.natAbs y.natAbs=((Int.gcd x y:Nat):Int).natAbs:=rfl;rw[sn (x:=(Int.gcd x y:Int)) c ?_ (fun _=>by omega),akO,oI,akO];grind
def Ss {x y:Int} (k:Ln x<=eX) (l:Ln y<=eX):nW (iT x) (iT y)=some (lT x y):=by
 have m:eX=4398046511104:=rfl;unfold nW;rw[ju (by omega),akO];simp only[akE,ajT,if_false];rw[ju (by omega),akO,akO];simp only[akE,ajT,if_false];have d:(iT x).aa=bE x.natAbs:=rfl;have e:(iT y).aa=bE y.natAbs:=rfl;have f:(iT x).aq=x.sign:=rfl;have g:(iT y).aq=y.sign:=rfl;rw[d,e,f,g];have n:(bE x.natAbs).length<=4398046511104:=by show Ln x<=_;omega
 have o:(bE y.natAbs).length<=4398046511104:=by show Ln y<=_;omega
 by_cases h:x.sign=y.sign
 ·rw[if_neg (by simpa using h),z8 (by unfold Fit;omega) (by unfold Fit;omega),akO];have j:∀s:Int,s = -1∨s=0∨s=1->∀c:Int,c = -1∨c=0∨c=1->IntKind.i64.wrap (s*c)=s*c:=by
   rintro s (rfl|rfl|rfl) c (rfl|rfl|rfl)<;>exact lO (by decide)
  have i:∀a b:Int,lT a b = -1∨lT a b=0∨lT a b=1:=by
   intro a b;unfold lT;omega
  rw[j _ (adX x) _ (i _ _)];congr 1;unfold lT;grind
 ·rw[if_pos (by simpa using h),Cb,akO];congr 1;unfold lT;grind
def W6 (x:Int):IntKind.u64.wrap x=x % 18446744073709551616:=by
 unfold IntKind.wrap;simp only[IntKind.bits,IntKind.signed,ale,ajT,if_false];rfl
def wu {x:Int} (h:0<=x∧x<18446744073709551616):IntKind.u64.wrap x=x:=by rw[W6];omega
def Xf {x:Int} (h:0<=x∧x<18446744073709551616):mR .and .u64 x 1048575=x % 1048576:=by
 unfold mR;simp only;have a:(BitVec.ofInt IntKind.u64.bits x &&& BitVec.ofInt IntKind.u64.bits 1048575).toNat=((x % 18446744073709551616).toNat) % 1048576:=by
  rw[BitVec.toNat_and,BitVec.toNat_ofInt,BitVec.toNat_ofInt];have e:((1048575:Int) % ((2 ^ IntKind.u64.bits:Nat):Int)).toNat=2 ^ 20-1:=by decide
  rw[e,alv];rfl
 rw[a,wu (by omega)];omega
def afQ (x:Int):AN .u64 x 20=some (x / 1048576):=by
 unfold AN;rw[if_neg (by decide)];have e:(2:Int) ^ (min (Int.toNat 20) IntKind.u64.bits)=1048576:=by decide
 grind
def pw4:pw 4=1208925819614629174706176:=by decide
def adE {n:Nat} (o:n<18446744073709551616):∃l,aQ yQ ((n:Int),[])=some l∧Dg l∧dv l=n∧l.length<=5:=by
 refine BE (I:=fun (s:Int×List Int)=>0<=s.1∧Dg s.2∧dv s.2+pw s.2.length*s.1=n∧s.2.length<=5∧(s.1=0∨s.2.length<5)) (μ:=fun (s:Int×List Int)=>s.1.toNat) _ ⟨by simp,Dg.nil,by simp[dv,tZ],by simp,by simp⟩ (by simp only[Int.toNat_natCast];unfold FU;omega) ?_;rintro⟨u,l⟩ ⟨a,b,c,d,e⟩;simp only at a b c d e;have p:=th l.length;have f:=ep b;have q:u<=n:=by
  have:1*u<=pw l.length*u:=alB (by omega) a;omega
 simp only[yQ]
 by_cases g:u>0
 ·left;have i:l.length<5:=by omega
  have j:l.length<4:=by
   rcases aj1 l.length 4 with h|h
   ·exact h
   ·have k:l.length=4:=by omega
    rw[k,pw4]at c;omega
  have m:IntKind.i64.wrap (u % 1048576)=u % 1048576:=lO (by omega);rw[if_pos (by simpa using g),Xf ⟨a,by omega⟩,m,It (by simp;omega),akO,afQ,akO];refine⟨_,rfl,⟨by simp only;omega,b.append (Dg.mk (by omega) Dg.nil),?_,by simp;omega,by right;simp;omega⟩,by simp only;omega⟩;simp only[lV,dv,akn,List.length_cons,List.length_nil,Int.mul_zero,Int.add_zero,akl];have:=C1 l.length u;omega
 grind
def UH {x:Int} (h : -9223372036854775808<=x∧x<9223372036854775808):vE x=some (iT x):=by
 have b:(if decide (x<0)=true then some ((-1:Int),IntKind.u64.wrap (0-(IntKind.u64.wrap x))) else some (1,IntKind.u64.wrap x))=some (if x<0 then -1 else 1,((x.natAbs:Nat):Int)):=by
  by_cases a:x<0
  ·rw[if_pos (by simpa using a),if_pos a,W6,W6];congr 2;omega
  ·rw[if_neg (by simpa using a),if_neg a,W6];congr 2;omega
 obtain⟨l,c,d,e,f⟩:=adE (n:=x.natAbs) (by omega);unfold vE;rw[b,akO];simp only;rw[c,akO,yj];refine ze x (by unfold Fit;omega) d e (fun g =>?_);grind
def aiN {d:Int} {i:Nat} (a:i<=3) (b:0<=d∧d<1048576) (c:i=3->d<=8):I0 .u64 (IntKind.u64.wrap d) (IntKind.i64.wrap (20*(i:Int)))=some (pw i*d):=by
 rw[wu (by omega),lO (by omega)];unfold I0;rw[if_neg (by omega)];have e:(2:Int) ^ (min (20*(i:Int)).toNat IntKind.u64.bits)=pw i:=by
  have:∀i:Nat,i<=3->(2:Int) ^ (min (20*(i:Int)).toNat IntKind.u64.bits)=pw i:=by decide
  exact this i a
 rw[e,wu,Int.mul_comm];rcases (show i=0∨i=1∨i=2∨i=3 by omega) with rfl|rfl|rfl|rfl
 ·grind
 ·rw[show pw 1=1048576 by decide];omega
 ·rw[show pw 2=1099511627776 by decide];omega
 ·rw[show pw 3=1152921504606846976 by decide];omega
def ahb {u d:Int} {i:Nat} (c:i<=3) (l:0<=u∧u<pw i) (f:0<=d∧pw i*d<9223372036854775809):mR .or .u64 u (pw i*d)=u+pw i*d:=by
 have m:=th i;have a:0<=pw i*d:=alA (by omega) f.1;have b:pw i=((2 ^ (20*i):Nat):Int):=by unfold pw;rw[Nat.pow_mul,Int.natCast_pow];rfl
 have g:pw i<=1152921504606846976:=by
  have:=wc c
  rwa [show pw 3=1152921504606846976 by decide]at this
 unfold mR;simp only;have h:(BitVec.ofInt IntKind.u64.bits u ||| BitVec.ofInt IntKind.u64.bits (pw i*d)).toNat=(u+pw i*d).toNat:=by
  rw[BitVec.toNat_or,BitVec.toNat_ofInt,BitVec.toNat_ofInt];have e:((2 ^ IntKind.u64.bits:Nat):Int)=18446744073709551616:=by decide
  rw[e];have j:(u % 18446744073709551616).toNat=u.toNat:=by omega
  have k:((pw i*d) % 18446744073709551616).toNat=d.toNat <<< (20*i):=by
   rw[Nat.shiftLeft_eq,Int.emod_eq_of_lt a (by omega),b];grind
  rw[j,k,Nat.or_comm,<- Nat.shiftLeft_add_eq_or_of_lt (by omega),Nat.shiftLeft_eq];omega
 rw[h,wu (by omega)];omega
def afH {g:Nat} (h:(bE g).length<=sw):uX (iT g)=some (decide (g=1)):=by
 have A:sw=17592186043904:=rfl;have b:(iT (g:Int)).aa=bE g:=rfl;have l:Ln (g:Int)=(bE g).length:=rfl;unfold uX;have f:g=1->(bE g).length<=4:=by
  rintro rfl;exact ajq (nX (k:=1) (by decide)) (by decide)
 suffices B:∃r,yO (iT g)=some r∧((if r.2=true then some (r.1==1) else some false)=some (decide (g=1))) by
  grind
 unfold yO;rw[ju (by rw[l];omega),akO];simp only[akE,ajT,if_false,Option.bind_some,b]
 by_cases C:(bE g).length>4
 ·rw[if_pos (by simp;omega)];grind
 rw[if_neg (by simp;omega)];have key:∃r,aQ (vD (iT g)) (0,0)=some r∧(match r with | .inl u=>u=(g:Int) | .inr x=>x=(0,false)∧g≠1):=by
  refine eB (I:=fun i s=>s.2=(i:Int)∧s.1=dv ((bE g).take i)) (bE g).length _ ⟨rfl,rfl⟩ (mX (by omega)) ?_;rintro i ⟨u,s⟩ q ⟨j,c⟩;simp only at j c;subst j c;simp only[vD,b];have d:=(fJ g).take i;have m:=ep d;have e:=tO d;rw[ajE,alh q]at e
  by_cases a:i<(bE g).length
  ·have gd:=(fJ g).get a;rw[if_pos (by simpa using a),dI a,akO];have t:(if ((i:Int)==3)=true then some (decide ((bE g)[i]>8)) else some false)=some (decide (i=3∧(bE g)[i]>8)):=by
    by_cases v:i=3
    ·subst v;simp
    grind
   rw[t,akO]
   by_cases p:i=3∧(bE g)[i]>8
   ·right;rw[if_pos (by simpa using p)];refine⟨.inr (0,false),rfl,rfl,?_⟩;rintro rfl;have:=nX (n:=1) (k:=1) (by decide);omega
   ·left;rw[if_neg (by simpa using p),aiN (by omega) gd (by omega),akO];have w:pw i*(bE g)[i]<9223372036854775809:=by
     rcases (show i=0∨i=1∨i=2∨i=3 by omega) with h|h|h|h
     ·have:pw i=1:=by rw[h];decide
      rw[this];omega
     ·have:pw i=1048576:=by rw[h];decide
      rw[this];omega
     ·have:pw i=1099511627776:=by rw[h];decide
      rw[this];omega
     ·have:pw i=1152921504606846976:=by rw[h];decide
      rw[this];omega
    rw[ahb (by omega) ⟨m,e⟩ ⟨gd.1,w⟩];exact⟨a,_,rfl,by rw[lO (by omega)];omega,by rw[lW a]⟩
  ·right;have:i=(bE g).length:=by omega
   subst this;exact⟨.inl (dv ((bE g).take (bE g).length)),by simp_all,by rw[alj,cT]⟩
 obtain⟨r,j,c⟩:=key;rw[j,akO];cases r with
 | inr x=>simp_all
 | inl u =>
  simp only at c;subst c;have y:(iT (g:Int)).aq=(g:Int).sign:=rfl;have z:¬(g:Int).sign<0:=by simp_all
  simp only[y];rw[if_neg (by simp),akO,if_neg (by simp),if_pos (by simp)]
  by_cases o:(g:Int)<9223372036854775808
  ·rw[if_pos (by simpa using o)];refine⟨_,rfl,?_⟩;simp only[if_true];rw[wrap64 (by omega) o];congr 1;grind
  ·rw[if_neg (by simpa using o)];have:g≠1:=by omega
   simp_all
def cy (q:Rat):ak:=ak.mk (iT q.num) (iT q.den)
def LF (q:Rat):Nat:=max (Ln q.num) (Ln q.den)
def wa {p q:Rat} (h:cy p=cy q):p=q:=by
 unfold cy at h;simp only[ak.mk.injEq]at h;have a:=VZ h.1;have b:=VZ h.2;exact Rat.ext a (by omega)
def okF (f:ak):Bool:=okB f.bQ&&okB f.bX&&(f.bX.aq==1)&&decide (Nat.gcd (dv f.bQ.aa).toNat (dv f.bX.aa).toNat=1)
def qv {f:ak} : okF f=true↔∃q,f=cy q:=by
 obtain⟨p,q⟩:=f;unfold okF;simp only[ajV,beq_iff_eq,decide_eq_true_eq];constructor
 ·rintro⟨⟨⟨e,g⟩,h⟩,d⟩;obtain⟨x,rfl⟩:=BN.1 e;obtain⟨y,rfl⟩:=BN.1 g;have i:0<y:=by
   have:y.sign=1:=h;simp_all
  have a:(dv (iT x).aa).toNat=x.natAbs:=by show (dv (bE _)).toNat=_;rw[cT];rfl
  have b:(dv (iT y).aa).toNat=y.natAbs:=by show (dv (bE _)).toNat=_;rw[cT];rfl
  rw[a,b]at d;refine⟨⟨x,y.natAbs,by omega,d⟩,?_⟩;unfold cy;grind
 ·rintro⟨q,c⟩;unfold cy at c;simp only[ak.mk.injEq]at c;obtain⟨rfl,rfl⟩:=c;have j:=q.den_pos;refine⟨⟨⟨TE _,TE _⟩,alE (by omega)⟩,?_⟩;have a:(dv (iT q.num).aa).toNat=q.num.natAbs:=by show (dv (bE _)).toNat=_;rw[cT];rfl
  have b:(dv (iT (q.den:Int)).aa).toNat=q.den:=by show (dv (bE _)).toNat=_;rw[cT];rfl
  rw[a,b];exact q.reduced
def G8 (q:Rat):okF (cy q)=true:=qv.2 ⟨q,rfl⟩
def acK (f:ak):Prop:=f.bQ.aa.length<=sw∧f.bX.aa.length<=sw
def acL {q:Rat} (h:LF q<=eX):acK (cy q):=by
 unfold LF at h;exact⟨AY (show Ln q.num<=_ by omega),AY (show Ln q.den<=_ by omega)⟩
def xj {f:ak} (a:acK f):cP f=some (okF f):=by
 have i:sw=17592186043904:=rfl;obtain⟨p,q⟩:=f;simp only[acK]at a;unfold cP okF;rw[HI (show Fit p.aa by unfold Fit;omega),akO]
 by_cases c:okB p=true
 ·simp only[c,akE,ajT,if_false,akF];rw[HI (show Fit q.aa by unfold Fit;omega),akO]
  by_cases d:okB q=true
  ·simp only[d,akE,ajT,if_false,akF,Option.bind_some]
   by_cases b:q.aq=1
   ·rw[if_neg (by simp[b])];obtain⟨x,rfl⟩:=BN.1 c;obtain⟨y,rfl⟩:=BN.1 d;rw[Y7 a.1 a.2,akO];simp only[beq_self_eq_true,if_true];have e:(dv (iT x).aa).toNat=x.natAbs:=by show (dv (bE _)).toNat=_;rw[cT];rfl
    have g:(dv (iT y).aa).toNat=y.natAbs:=by show (dv (bE _)).toNat=_;rw[cT];rfl
    rw[afH,akO,e,g]
    ·rw[b];rfl
    ·have h:0<y.natAbs:=by
      have:y.sign=1:=b;grind
     have:=gF (Nat.gcd_le_right x.natAbs h);have j:(bE y.natAbs).length<=sw:=a.2;show (bE (Nat.gcd x.natAbs y.natAbs)).length<=_;omega
   simp_all
  simp_all
 simp_all
def ll {q:Rat} (h:LF q<=eX):cP (cy q)=some true:=by rw[xj (acL h),G8]
def L3 {p q:Int} (f:Ln p<=eX) (e:Ln q<=eX) (i:q≠0):oM (iT p) (iT q)=some (cy (Rat.divInt p q),0):=by
 have n:eX=4398046511104:=rfl;have d:∀ {p q:Int},Ln p<=eX->Ln q<=eX->0<q ->
   ((tJ (iT p) (iT q)).bind fun j=>(rL (iT p) j.1).bind fun k=>(rL (iT q) j.1).bind fun l=>some ((ak.mk k.1 l.1),(0:Int)))=some (cy (Rat.divInt p q),0):=by
  intro p q f e i;have o:0<Int.gcd p q:=Int.gcd_pos_of_ne_zero_right _ (by omega);have g:Ln (Int.gcd p q:Int)<=eX:=by
   have:=gF (Nat.gcd_le_right p.natAbs (show 0<q.natAbs by omega));show (bE (Nat.gcd p.natAbs q.natAbs)).length<=_;have r:(bE q.natAbs).length<=eX:=e;omega
  rw[Y7 (AY f) (AY e),akO];simp only;rw[Y3 f g (by omega) (Int.gcd_dvd_left ..),akO,Y3 e g (by omega) (Int.gcd_dvd_right ..),akO];have m:((q.natAbs / Int.gcd p q:Nat):Int)=q / (Int.gcd p q:Int):=by
   grind
  unfold cy;rw[Rat.num_divInt,Rat.den_divInt,if_neg (by omega),alE i,Int.one_mul,Int.gcd_comm q p,m]
 unfold oM;rw[ju (by omega),akO];simp only[akE,ajT,if_false];rw[ju (by omega),akO,akO];simp only[akE,ajT,if_false];have h:(iT q).aq=q.sign:=rfl;rw[h];rcases BV q with⟨a,b,c⟩|⟨a,b,c⟩|⟨a,b⟩
 ·rw[if_neg (by rw[a];decide),if_neg (by rw[a];decide),akO];exact d f e c
 ·rw[if_neg (by rw[a];decide),if_pos (by rw[a];decide),Sy f,akO,Sy e,akO,akO];have:=d (p := -p) (q := -q) (by rw[L2];exact f) (by rw[L2];exact e) (by omega);rw[Rat.neg_divInt_neg]at this;exact this
 omega
def mF (q:Rat):Ln q.num<=LF q:=by unfold LF;omega
def oF (q:Rat):Ln q.den<=LF q:=by unfold LF;omega
def se {p q:Int} (a:q≠0):LF (Rat.divInt p q)<=max (Ln p) (Ln q):=by
 have d:0<Int.gcd q p:=Int.gcd_pos_of_ne_zero_left _ a;have e:Ln (Rat.divInt p q).num<=Ln p:=by
  apply UG;rw[Rat.num_divInt];obtain⟨z,b⟩:(Int.gcd q p:Int)∣q.sign*p:=Int.dvd_mul_of_dvd_right (Int.gcd_dvd_right ..);rw[b,Int.mul_ediv_cancel_left _ (by omega)];have c:(q.sign*p).natAbs=p.natAbs:=by
   grind
  rw[<- c,b,Int.natAbs_mul];exact Nat.le_mul_of_pos_left _ (by omega)
 have c:Ln ((Rat.divInt p q).den:Int)<=Ln q:=by
  apply UG;rw[Rat.den_divInt,if_neg a];exact Nat.div_le_self _ _
 unfold LF;omega
def NR {a b:Rat} (h:LF a+LF b+1<=eX):lv (cy a) (cy b)=some (cy (a+b),0):=by
 have d:=mF a;have e:=mF b;have d1:=oF a;have d2:=oF b;have f:=lk a.num b.den;have g:=lk b.num a.den;have i:=lk a.den b.den;have j:=Sx (a.num*b.den) (b.num*a.den);unfold lv;rw[ll (by omega),akO];simp only[akE,ajT,if_false];rw[ll (by omega),akO,akO];simp only[akE,ajT,if_false];show (cQ (iT a.num) (iT b.den)).bind _=_;rw[pf (by omega) (by omega),akO];show (cQ (iT b.num) (iT a.den)).bind _=_;rw[pf (by omega) (by omega),akO,ae4 (by omega) (by omega),akO];show (cQ (iT a.den) (iT b.den)).bind _=_;have c:(a.den:Int)*b.den≠0:=by
  rw[<- alC];have:=Nat.mul_pos a.den_pos b.den_pos;omega
 rw[pf (by omega) (by omega),akO,L3 (by omega) (by omega) c,akO];rw[Rat.add_def',<- Rat.divInt_ofNat,alC]
def vA (a b:Rat):LF (a+b)<=LF a+LF b+1:=by
 have d:=mF a;have e:=mF b;have d1:=oF a;have d2:=oF b;have f:=lk a.num b.den;have g:=lk b.num a.den;have h:=lk a.den b.den;have i:=Sx (a.num*b.den) (b.num*a.den);have c:(a.den:Int)*b.den≠0:=by
  rw[<- alC];have:=Nat.mul_pos a.den_pos b.den_pos;omega
 rw[Rat.add_def',<- Rat.divInt_ofNat,alC];have:=se (p:=a.num*b.den+b.num*a.den) c;omega
def Zk (a:Rat):LF (-a)=LF a:=by unfold LF;rw[Rat.neg_num,Rat.neg_den,L2]
def Sv (a b:Rat):LF (a-b)<=LF a+LF b+1:=by
 rw[Rat.sub_eq_add_neg];have:=vA a (-b);rw[Zk]at this;exact this
def ael {a b:Rat} (h:LF a+LF b+1<=eX):sW (cy a) (cy b)=some (cy (a-b),0):=by
 unfold sW;rw[ll (by omega),akO];simp only[akE,ajT,if_false];rw[ll (by omega),akO,akO];simp only[akE,ajT,if_false];show (rM (iT b.num)).bind _=_;have c:=mF b;rw[Sy (by omega),akO];have e:ak.mk (iT (-b.num)) (cy b).bX=cy (-b):=by unfold cy;simp_all
 rw[e,NR (by rw[Zk];exact h),akO,Rat.sub_eq_add_neg]
def NX {a b:Rat} (h:LF a+LF b<=eX):mV (cy a) (cy b)=some (cy (a*b),0):=by
 have d:=mF a;have e:=mF b;have d1:=oF a;have d2:=oF b;have f:=lk a.num b.num;have g:=lk a.den b.den;unfold mV;rw[ll (by omega),akO];simp only[akE,ajT,if_false];rw[ll (by omega),akO,akO];simp only[akE,ajT,if_false];show (cQ (iT a.num) (iT b.num)).bind _=_;rw[pf (by omega) (by omega),akO];show (cQ (iT a.den) (iT b.den)).bind _=_;have c:(a.den:Int)*b.den≠0:=by
  rw[<- alC];have:=Nat.mul_pos a.den_pos b.den_pos;omega
 rw[pf (by omega) (by omega),akO,L3 (by omega) (by omega) c,akO];rw[Rat.mul_def',<- Rat.divInt_ofNat,alC]
def su (a b:Rat):LF (a*b)<=LF a+LF b:=by
 have d:=mF a;have e:=mF b;have d1:=oF a;have d2:=oF b;have f:=lk a.num b.num;have g:=lk a.den b.den;have c:(a.den:Int)*b.den≠0:=by
  rw[<- alC];have:=Nat.mul_pos a.den_pos b.den_pos;omega
 rw[Rat.mul_def',<- Rat.divInt_ofNat,alC];have:=se (p:=a.num*b.num) c;omega
def FF (a b:Rat):a / b=Rat.divInt (a.num*b.den) (a.den*b.num):=by
 rw[Rat.div_def,Rat.inv_def]
 conv=>lhs;rw[<- Rat.num_divInt_den a]
 rw[Rat.divInt_mul_divInt]
def ags {a b:Rat} (h:LF a+LF b<=eX) (h0:b≠0):qH (cy a) (cy b)=some (cy (a / b),0):=by
 have j:=mF a;have k:=mF b;have d1:=oF a;have d2:=oF b;have l:=lk a.num b.den;have m:=lk a.den b.num;have f:b.num≠0:=fun g=>h0 (Rat.num_eq_zero.1 g);unfold qH;rw[ll (by omega),akO];simp only[akE,ajT,if_false];rw[ll (by omega),akO,akO];simp only[akE,ajT,if_false];have i:(cy b).bQ.aq=b.num.sign:=rfl;have e:b.num.sign≠0:=by rcases BV b.num with⟨a,b,c⟩|⟨a,b,c⟩|⟨a,b⟩<;>omega
 rw[i,if_neg (by simpa using e)];show (cQ (iT a.num) (iT b.den)).bind _=_;rw[pf (by omega) (by omega),akO];show (cQ (iT a.den) (iT b.num)).bind _=_;have d:(a.den:Int)*b.num≠0:=Int.mul_ne_zero (by have:=a.den_pos;omega) f;rw[pf (by omega) (by omega),akO,L3 (by omega) (by omega) d,akO,FF]
def Zj {a b:Rat} (h0:b≠0):LF (a / b)<=LF a+LF b:=by
 have f:=mF a;have g:=mF b;have d1:=oF a;have d2:=oF b;have h:=lk a.num b.den;have i:=lk a.den b.num;have d:b.num≠0:=fun e=>h0 (Rat.num_eq_zero.1 e);have c:(a.den:Int)*b.num≠0:=Int.mul_ne_zero (by have:=a.den_pos;omega) d;rw[FF];have:=se (p:=a.num*b.den) c;omega
def Y9 {n:Int} (h : -9223372036854775808<=n∧n<9223372036854775808):gO n=some (cy n):=by
 unfold gO;rw[UH h,akO,UH (by decide),akO];unfold cy;simp_all
def zY {n:Int} (h:n.natAbs<1048576):LF (n:Rat)<=1:=by
 unfold LF;rw[Rat.num_intCast,Rat.den_intCast];have a:=NW h;have b:=NW (x:=((1:Nat):Int)) (by decide);omega
def zZ {a:Rat} (h:LF a<=eX):iz (cy a)=some a.num.sign:=by
 unfold iz;rw[ll h,akO];rfl
def OL (a b:Rat):Int:=if a<b then -1 else if b<a then 1 else 0
def acZ (a b:Rat):lT (a.num*b.den) (b.num*a.den)=OL a b:=by
 unfold lT OL;simp only[Rat.lt_iff]
def I8 {a b:Rat} (h:LF a+LF b<=eX):jo (cy a) (cy b)=some (OL a b):=by
 have c:=mF a;have d:=mF b;have d1:=oF a;have d2:=oF b;have e:=lk a.num b.den;have f:=lk b.num a.den;unfold jo;rw[ll (by omega),akO];simp only[akE,ajT,if_false];rw[ll (by omega),akO,akO];simp only[akE,ajT,if_false];show (cQ (iT a.num) (iT b.den)).bind _=_;rw[pf (by omega) (by omega),akO];show (cQ (iT b.num) (iT a.den)).bind _=_;rw[pf (by omega) (by omega),akO,Ss (by omega) (by omega),akO,acZ]
instance:DecidableEq aL:=fun a b=>decidable_of_iff (a.aq=b.aq∧a.aa=b.aa) (by cases a;cases b;simp)
instance:DecidableEq ak:=fun a b=>decidable_of_iff (a.bQ=b.bQ∧a.bX=b.bX) (by cases a;cases b;simp)
def Yn {b c:aL} (d:Fit b.aa) (g:b.aa.length=c.aa.length):∃r,aQ (o0 b c) 0=some r∧(match r with | .inl _=>b.aa=c.aa | .inr x=>x=false∧b.aa≠c.aa):=by
 refine eB (I:=fun i s=>s=(i:Int)∧b.aa.take i=c.aa.take i) b.aa.length _ ⟨rfl,by simp⟩ (mX d) ?_;unfold Fit at d;rintro i s h ⟨rfl,f⟩;simp only[o0]
 by_cases a:i<b.aa.length
 ·rw[if_pos (by simpa using a),dI a,akO,dI (by omega),akO]
  by_cases e:b.aa[i]=c.aa[i]
  ·left;rw[if_neg (by simpa using e)];refine⟨a,_,rfl,by rw[lO (by omega)];omega,?_⟩;rw[List.take_add_one,List.take_add_one,f];grind
  ·right;rw[if_pos (by simpa using e)];grind
 ·right;have:i=b.aa.length:=by omega
  subst this;grind
def Wo {b c:aL} (d:Fit b.aa):lH b c=some (decide (b=c)):=by
 have a:b=c↔b.aq=c.aq∧b.aa=c.aa:=by cases b;cases c;simp
 unfold lH
 by_cases e:b.aq=c.aq
 ·rw[if_neg (by simpa using e),akO]
  by_cases f:b.aa.length=c.aa.length
  ·rw[if_neg (by simp;omega)];obtain⟨r,g,h⟩:=Yn d f;grind
  grind
 simp_all
def ahk {f g:ak} (b:Fit f.bQ.aa) (c:Fit f.bX.aa):tl f g=some (decide (f=g)):=by
 have a:f=g↔f.bQ=g.bQ∧f.bX=g.bX:=by cases f;cases g;simp
 unfold tl;rw[Wo b,akO]
 by_cases h:f.bQ=g.bQ
 ·rw[if_pos (by simpa using h),Wo c,akO];simp[a,h]
 simp_all
def Zn {x:Int} (h : -9223372036854775808<=x∧x<9223372036854775808):Ln x<=eX:=by
 have:Ln x<=4:=NV (by rw[pw4];omega);have a:eX=4398046511104:=rfl;omega
def afq (f:ak) (n:Int):we f n=some (decide ((f.bQ.aa.length:Int)<=n∧(f.bX.aa.length:Int)<=n)):=by
 unfold we;grind
def aa0 {σ ρ:Type} {a:σ->Option (σ⊕ρ)} {n:Nat} {s b:σ} (h:a s=some (.inl b)):rB a (n+1) s=rB a n b:=by simp only[rB,h]
def P0 {σ ρ:Type} {a:σ->Option (σ⊕ρ)} {n:Nat} {s:σ} {r:ρ} (h:a s=some (.inr r)):rB a (n+1) s=some r:=by simp only[rB,h]
def a7 {i:Nat} (h:i<4611686018427387904):IntKind.i64.wrap ((i:Int)+1)=((i+1:Nat):Int):=by rw[wrap64 (by omega) (by omega)];omega
def aU {α:Type} {l:List α} {i:Nat} {x:α} (h:l[i]? = some x):P.idx l (i:Int)=some x:=PV (by omega) (by simpa using h)
def aO {α:Type} {l:List α} {i:Nat} {x:α} (h:l[i]? = some x):i<l.length:=(ajO.1 h).1
def drop_cons {α:Type} {l a:List α} {i:Nat} {x:α} (h:l.drop i=x::a):i<l.length∧l[i]? = some x∧l.drop (i+1)=a:=by
 have b:i<l.length:=by
  rcases aj1 i l.length with h1|h1
  ·exact h1
  ·rw[akY h1]at h;cases h
 rw[ala b]at h;grind
def eN {α ρ:Type} (a:Nat->α->Option ρ):Nat->List α->Option ρ
 | _,[]=>none
 | i,x::l=>match a i x with|some r=>some r|none=>eN a (i+1) l
def cV {α ρ:Type} {st:Nat->α->Option ρ} : ∀ {l:List α} {i:Nat},eN st i l=none↔∀(j:Nat) x,l[j]? = some x->st (i+j) x=none
 | [],i=>by simp[eN]
 | x::l,i=>by
  simp only[eN];constructor
  ·intro h j y a;cases c:st i x with
   | some r=>simp_all
   | none =>
    rw[c]at h;cases j with
    | zero=>simp_all
    | succ j =>
     have:=cV.1 h j y (by simpa using a);grind
  ·intro h;have b:=h 0 x rfl;simp only[Nat.add_zero]at b;rw[b];refine cV.2 fun j y a =>?_;have:=h (j+1) y (by simpa using a);grind
def dn {α ρ:Type} {st:Nat->α->Option ρ} {r:ρ} : ∀ {l:List α} {i:Nat},eN st i l=some r->∃(j:Nat) (x:α),l[j]? = some x∧st (i+j) x=some r∧∀(k:Nat) y,k<j->l[k]? = some y->st (i+k) y=none
 | [],i,h=>by cases h
 | x::l,i,h=>by
  simp only[eN]at h;cases a:st i x with
  | some r' =>
   rw[a]at h;exact⟨0,x,rfl,by simp_all,fun k y b=>by omega⟩
  | none =>
   rw[a]at h;obtain⟨j,y,c,d,e⟩:=dn h;refine⟨j+1,y,by simpa using c,by grind,fun k z b f =>?_⟩;cases k with
   | zero=>simp_all
   | succ k =>
    grind
def oe {α ρ:Type} (l:List α) {body:Int->Option (Int⊕(Unit⊕ρ))} (b:Nat->α->Option ρ) (e:l.length<4611686018427387904)
  (h:∀(i:Nat) x,l[i]? = some x->body (i:Int)=some (match b i x with|none =>.inl ((i+1:Nat):Int)|some r =>.inr (.inr r))) (j:body (l.length:Int)=some (.inr (.inl ()))) :
  aQ body 0=some (match eN b 0 l with|none =>.inl ()|some r =>.inr r):=by
 have key:∀(rest:List α) (i a:Nat),i<=l.length->l.drop i=rest->rest.length<a->rB body a (i:Int)=some (match eN b i rest with|none =>.inl ()|some r =>.inr r):=by
  intro rest
  induction rest with
  | nil =>
   intro i a k g c;obtain⟨f,rfl⟩:∃f,a=f+1:=⟨a-1,by simp at c;omega⟩;have m:l.length<=i:=by
    simp_all
   have:i=l.length:=by omega
   subst this;rw[P0 j];rfl
  | cons x rest n =>
   intro i a k g c;obtain⟨f,rfl⟩:∃f,a=f+1:=⟨a-1,by simp at c;omega⟩;obtain⟨o,p,q⟩:=drop_cons g;have:=h i x p;cases d:b i x with
   | some r =>
    rw[d]at this;rw[P0 this];simp only[eN,d]
   | none =>
    rw[d]at this;rw[aa0 this,n (i+1) f o q (by simp at c;omega)];simp only[eN,d]
 exact key l 0 FU (ajp _) rfl (by have:FU=1000000000000000000000000:=rfl;omega)
def qG {α σ ρ:Type} {body:Int×σ->Option ((Int×σ)⊕ρ)} (l:List α) (d:l.length<=17592186044416) (inv:Nat->σ->Prop) (Q:ρ->Prop) {s0:σ} (e:inv 0 s0)
  (a:∀(i:Nat) x s,l[i]? = some x->inv i s->∃b,body ((i:Int),s)=some (.inl (((i+1:Nat):Int),b))∧inv (i+1) b)
  (c:∀s,inv l.length s->∃r,body ((l.length:Int),s)=some (.inr r)∧Q r):∃r,aQ body ((0:Int),s0)=some r∧Q r:=by
 refine eB (fun i s=>s.1=(i:Int)∧inv i s.2) l.length Q ⟨rfl,e⟩ (mX d) ?_;rintro i ⟨k,s⟩ g ⟨rfl,f⟩;rcases aj1 i l.length with h|h
 ·obtain⟨b,j,m⟩:=a i _ s (ajA h) f;simp_all
 grind
def dx {α:Type} {N j:Nat} (f:Nat->α) (h:j<N):((List.range N).map f)[j]? = some (f j):=by simp[h]
def sj {α:Type} {N:Nat} (f:Nat->α):((List.range N).map f).length=N:=by simp
def fZ {α:Type} {l:List α} {N:Nat} {f:Nat->α} (a:l.length=N) (h:∀j,j<N->l[j]? = some (f j)):l=(List.range N).map f:=by
 apply alk;grind
def gX {α:Type} {N i:Nat} (f:Nat->α) (v:α):((List.range N).map f).set i v=(List.range N).map fun j=>if j=i then v else f j:=by
 refine fZ (by simp) fun j a =>?_;grind
def Aw {α β:Type} {mk:β->α} {R:β->Prop} : ∀ {l:List α},(∀x∈l,∃y,x=mk y∧R y)->∃a:List β,l=a.map mk∧∀y∈a,R y
 | [],_=>⟨[],rfl,fun _ h=>by cases h⟩
 | x::l,h=>by
  obtain⟨y,c,d⟩:=h x (akJ ..);obtain⟨a,e,f⟩:=Aw (l:=l) fun z b=>h z (akK _ b);refine⟨y::a,by simp_all,fun z b =>?_⟩;grind
def M4 {α:Type} {R:α->α->Prop} (g:∀a b c,R a b->R b c->R a c) {l:List α} (h:∀(i:Nat) a b,l[i]? = some a->l[i+1]? = some b->R a b):l.Pairwise R:=by
 rw[alp];intro i j k f e;obtain⟨d,rfl⟩:∃d,j=i+1+d:=⟨j-(i+1),by omega⟩;clear e
 induction d with
 | zero=>exact h i _ _ (ajA k) (ajA f)
 | succ d m=>exact g _ _ _ (m (by omega)) (h (i+1+d) _ _ (ajA (by omega)) (ajA f))
abbrev Tk:=Nat×Nat×Rat
def yi (t:Tk):cu:=cu.mk (t.1:Int) (t.2.1:Int) (cy t.2.2)
def rn (N:Nat) (tk:List Tk):gS:=gS.mk (N:Int) (tk.map yi)
def V2 {a b:Tk} (h:yi a=yi b):a=b:=by
 unfold yi at h;injection h with d e c;exact Prod.ext (by omega) (Prod.ext (by omega) (wa c))
def MO {N M:Nat} {a b:List Tk} (h:rn N a=rn M b):N=M∧a=b:=by
 unfold rn at h;injection h with d c;refine⟨by omega,?_⟩;exact List.map_inj_right (f:=yi) (fun x y h=>V2 h) |>.1 c
def uM:List Tk->Nat->Rat
 | [],_=>0
 | t::l,p=>(if t.1=p then t.2.2 else 0)+uM l p
def Rg (a b:List Tk) (p:Nat):uM (a++b) p=uM a p+uM b p:=by
 induction a with
 | nil=>rw[akV,uM,Rat.zero_add]
 | cons t a c=>rw[ak6,uM,uM,c];grind
def fm (tk:List Tk) (p:Nat):Rat:=1-uM tk p
def GJ {tk:List Tk} {i:Nat} {t:Tk} (h:tk[i]? = some t) (p:Nat):fm (tk.take (i+1)) p=fm (tk.take i) p-(if t.1=p then t.2.2 else 0):=by
 obtain⟨a,b⟩:=ajO.1 h;unfold fm;rw[alK a,Rg,b];simp only[uM];grind
def LZ {tk:List Tk} {K:Nat} (a:∀t∈tk,LF t.2.2<=K) (p:Nat):∀i,i<=tk.length->LF (fm (tk.take i) p)<=1+i*(K+1)
 | 0,_=>by
  have:fm (tk.take 0) p=((1:Int):Rat):=by unfold fm;rw[alb,uM];grind
  rw[this];exact ajq (zY (n:=1) (by decide)) (by omega)
 | i+1,h=>by
  have c:=LZ a p i (by omega);have b:tk[i]? = some tk[i]:=ajA (by omega);rw[GJ b];have d:=a _ (ajz (show i<tk.length by omega));rw[akZ];split
  ·have:=Sv (fm (tk.take i) p) tk[i].2.2;omega
  grind
def NT {tk:List Tk} {K:Nat} (a:∀t∈tk,LF t.2.2<=K) (p:Nat):LF (fm tk p)<=1+tk.length*(K+1):=by
 have:=LZ a p tk.length (ajo _);simp_all
def D1 {α:Type} {N B:Nat} (z:α) (h:N*B<=140737488355328) (a:N<=2000):Io B (N:Int) (N:Int) z=some (List.replicate N z):=by
 unfold Io;have:(2000:Nat)<=maxLen:=by decide
 grind
def adm:gO 1=some (cy 1):=Y9 (n:=1) (by decide)
def Qc {N K:Nat} {tk:List Tk} (q:N<=2000) (k:tk.length<=8000) (s:∀t∈tk,t.1<N) (y:K<=1000000) (m:∀t∈tk,LF t.2.2<=K) :
  pZ (rn N tk)=some ((List.range N).map fun p=>cy (fm tk p)):=by
 unfold pZ rn;simp only;rw[D1 _ (by omega) q,akO];have a:∃r,aQ (oS (List.replicate N (ak.mk (aL.mk 0 []) (aL.mk 0 [])))) ((0:Int),List.replicate N (ak.mk (aL.mk 0 []) (aL.mk 0 [])))=some r∧r=(List.range N).map fun p=>cy (fm (tk.take 0) p):=by
  refine qG (List.replicate N (ak.mk (aL.mk 0 []) (aL.mk 0 []))) (by simp;omega) (fun i l=>l.length=N∧∀j,j<i->l[j]? = some (cy 1)) _ ⟨by simp,fun j b=>by omega⟩ ?_ ?_
  ·rintro i x l z ⟨c,d⟩;have u:i<N:=by grind
   have e:l[i]? = some l[i]:=ajA (by omega);refine⟨l.set i (cy 1),?_,by simpa using c,fun j b =>?_⟩
   ·simp only[oS];rw[if_pos (by simp;omega),adm,akO,aU e,akO,a7 (by omega),ake]
   grind
  ·rintro l ⟨c,d⟩;refine⟨l,?_,?_⟩
   ·simp only[oS];simp_all
   ·rw[List.length_replicate]at d;refine fZ c fun j b =>?_;rw[d j b,alb];congr 2;unfold fm uM;grind
 obtain⟨r,a,rfl⟩:=a;rw[a,akO];have A:∃r,aQ (oT (gS.mk (N:Int) (tk.map yi))) ((0:Int),(List.range N).map fun p=>cy (fm (tk.take 0) p))=some r∧r=(List.range N).map fun p=>cy (fm tk p):=by
  refine qG tk (by omega) (fun i l=>l=(List.range N).map fun p=>cy (fm (tk.take i) p)) _ rfl ?_ ?_
  ·rintro i t _ g rfl;have u:=aO g;have n:=ajM g;have h:=s t n;have e:(tk.map yi)[i]? = some (yi t):=by simp_all
   refine⟨_,?_,rfl⟩;simp only[oT];have v:=LZ m t.1 i (by omega);have w:=m t n;have o:i*(K+1)<=8000*1000001:=alL (by omega) (by omega);rw[if_pos (by simp;omega),aU e,akO];simp only[yi];rw[aU (dx _ h),akO,ael (by unfold eX;omega),akO,a7 (by omega),ake,gX];congr 3;refine congrArg (fun f=>(List.range N).map f) (funext fun p =>?_);rw[GJ g];grind
  ·rintro _ rfl;refine⟨_,?_,rfl⟩;simp only[oT];simp_all
 simp_all
def VV (a b:Tk):Prop:=a.1<b.1∨(a.1=b.1∧a.2.1<b.2.1)
def X3 (a b c:Tk) (h:VV a b) (k:VV b c):VV a c:=by unfold VV at *;omega
structure kR (N:Nat) (tk:List Tk):Prop where
 ports:N<=2000
 takes:tk.length<=8000
 ok:∀t∈tk,t.1<N∧t.2.1<N∧0<t.2.2
 sorted:tk.Pairwise VV
 leak:∀p,p<N->0<=fm tk p
def mz (a b c:Int):fu a b c=some (decide (b<=a∧a<=c)):=by
 unfold fu;grind
def Xj (a b:cu):∃c,pW a b=some c∧(c<0↔(a.db<b.db∨(a.db=b.db∧a.kq<b.kq))):=by
 unfold pW;rw[Cb,akO,Cb,akO,aeg,akO];refine⟨_,rfl,?_⟩;unfold lT;omega
def ud {q:Rat} : q.num.sign<0↔q<0:=by
 rw[Int.sign_neg_iff,<- Rat.not_le,<- Rat.num_nonneg];omega
def abR {q:Rat} : q.num.sign=0↔q=0:=by
 simp_all
def EV {q:Rat} : 0<q.num.sign↔0<q:=by
 constructor
 ·intro h;have b:¬q<0:=fun a=>by have:=ud.2 a;omega
  have c:q≠0:=fun a=>by simp_all
  grind
 ·intro h;have b:¬q.num.sign<0:=fun a=>by have:=ud.1 a;grind
  have c:q.num.sign≠0:=fun a=>by simp_all
  omega
def qp {q:Rat} {k:Nat} (a:(cy q).bQ.aa.length<=k) (b:(cy q).bX.aa.length<=k):LF q<=k:=by
 unfold LF Ln;exact Nat.max_le.2 ⟨a,b⟩
def Ba {q:Rat} {k:Nat} (h:LF q<=k):(cy q).bQ.aa.length<=k∧(cy q).bX.aa.length<=k:=by
 unfold LF Ln at h;exact Nat.max_le.1 h
def FD {l:List Rat} (g:l.length<=17592186044416) (d:∀q∈l,LF q<=eX):cG (l.map cy)=some (decide (∃q∈l,q<0)):=by
 unfold cG dM;rw[oe l (fun i q=>if q<0 then some (i:Int) else none) (by omega) (fun i q a =>?_) (by simp only[ew];simp_all)]
 ·rw[akO];cases b:eN (fun i (q:Rat)=>if q<0 then some (i:Int) else none) 0 l with
  | none =>
   simp only;rw[akO,decide_eq_false (by decide),decide_eq_false];rintro⟨q,a,hn⟩;obtain⟨j,e⟩:=ajH a;have:=cV.1 b j q e;simp_all
  | some r =>
   obtain⟨j,q,f,c,_⟩:=dn b
   by_cases hn:q<0
   ·rw[if_pos hn]at c;cases c;simp only;rw[akO,decide_eq_true (by omega),decide_eq_true ⟨q,ajM f,hn⟩]
   simp_all
 ·have k:=aO a;simp only[ew,qN];rw[if_pos (by simp;omega),aU (x:=cy q) (by simp_all),akO,zZ (d q (ajM a)),akO,akO]
  by_cases hn:q<0
  ·rw[decide_eq_true (ud.2 hn),if_pos hn];rfl
  ·rw[decide_eq_false (fun h=>hn (ud.1 h)),if_neg hn,a7 (by omega)];rfl
def Yc (N:Nat) (x:cu):Bool:=decide (0<=x.db∧x.db<=(N:Int)-1)&&decide (0<=x.kq∧x.kq<=(N:Int)-1)&&okF x.gj&&decide (0<x.gj.bQ.aq)
def Xi (a b:cu):Prop:=a.db<b.db∨(a.db=b.db∧a.kq<b.kq)
instance (a b:cu):Decidable (Xi a b):=by unfold Xi;infer_instance
def Bz (N:Nat) (l:List cu) (i:Nat) (x:cu):Bool:=Yc N x&&(decide (i=0)||(match l[i-1]? with|some y=>decide (Xi y x)|none=>false))
def Q0 {N:Nat} {x:cu} : Yc N x=true↔∃t:Tk,x=yi t∧t.1<N∧t.2.1<N∧0<t.2.2:=by
 unfold Yc;simp only[ajV,decide_eq_true_eq];constructor
 ·rintro⟨⟨⟨c,d⟩,a⟩,b⟩;obtain⟨q,e⟩:=qv.1 a;refine⟨(x.db.toNat,x.kq.toNat,q),?_,by simp only;omega,by simp only;omega,?_⟩
  ·unfold yi;cases x;grind
  ·rw[e]at b;exact EV.1 b
 ·rintro⟨t,rfl,c,d,a⟩;exact⟨⟨⟨by simp only[yi];omega,by simp only[yi];omega⟩,G8 _⟩,EV.2 a⟩
def UZ {a b:Tk} : Xi (yi a) (yi b)↔VV a b:=by
 unfold Xi VV yi;simp only;omega
def aaR {n:gS} {N j:Nat} {x:cu} (b:n.aB=(N:Int)) (c:n.bd[j]? = some x) (a:¬Bz N n.bd j x=true):¬ ∃M tk,n=rn M tk∧kR M tk:=by
 rintro⟨M,tk,rfl,e⟩;apply a;simp only[rn]at c b ⊢;obtain rfl:M=N:=by omega
 rw[ajl,ajm]at c;obtain⟨t,f,rfl⟩:=c;have g:=ajM f;unfold Bz;rw[Q0.2 ⟨t,rfl,e.ok t g⟩,akF];cases j with
 | zero=>simp
 | succ j =>
  have d:=aO f;have h:tk[j]? = some tk[j]:=ajA (by omega);rw[ak0,ajl,h];simp only[Option.map_some];rw[decide_eq_true (UZ.2 ?_),Bool.or_true];have:=alp.1 e.sorted j (j+1) (by omega) d (by omega);simp_all
def aaQ {n:gS} {N K:Nat} (e:n.aB=(N:Int)) (q:n.bd.length<=8000) (h:∀t∈n.bd,t.gj.bQ.aa.length<=K∧t.gj.bX.aa.length<=K) (c:∀(j:Nat) x,n.bd[j]? = some x->Bz N n.bd j x=true) :
  ∃tk,n=rn N tk∧(∀t∈tk,t.1<N∧t.2.1<N∧0<t.2.2)∧tk.Pairwise VV∧(∀t∈tk,LF t.2.2<=K)∧tk.length=n.bd.length:=by
 obtain⟨tk,d,g⟩:=Aw (mk:=yi) (R:=fun t=>t.1<N∧t.2.1<N∧0<t.2.2) (l:=n.bd) fun x k=>by
  obtain⟨j,m⟩:=ajH k;have:=c j x m;unfold Bz at this;rw[ajV]at this;exact Q0.1 this.1
 have r:n=rn N tk:=by
  unfold rn;rw[<- e,<- d]
 have f:tk.Pairwise VV:=M4 X3 fun i a b o s=>by
  have:=c (i+1) (yi b) (by simp_all);unfold Bz at this;rw[ajV,ak0,d,ajl,o]at this;simpa [UZ] using this.2
 have p:∀t∈tk,LF t.2.2<=K:=fun t u=>by
  have:=h (yi t) (by grind);exact qp this.1 this.2
 grind
def Lc {n:gS} {K:Nat} (O:K<=1000000) (P:∀t∈n.bd,t.gj.bQ.aa.length<=K∧t.gj.bX.aa.length<=K) :
  ∃b,pV n=some b∧(b=true↔∃N tk,n=rn N tk∧kR N tk):=by
 unfold pV;rw[mz,akO]
 by_cases D:0<=n.aB∧n.aB<=2000
 rotate_left
 ·rw[decide_eq_false D];refine⟨false,by simp,?_⟩;simp only[ajT,false_iff];rintro⟨N,tk,rfl,h⟩;have:=h.ports;simp only[rn]at D;omega
 rw[decide_eq_true D];simp only[akE,ajT,if_false,Option.bind_some]
 by_cases E:(n.bd.length:Int)>8000
 ·rw[decide_eq_true E];refine⟨false,by simp,?_⟩;simp only[ajT,false_iff];rintro⟨N,tk,rfl,h⟩;have:=h.takes;simp only[rn,ajP]at E;omega
 rw[decide_eq_false E];simp only[ajT,if_false];obtain⟨N,e⟩:∃N:Nat,n.aB=(N:Int):=⟨n.aB.toNat,by omega⟩;have F:IntKind.i64.wrap (n.aB-1)=(N:Int)-1:=by rw[e,wrap64 (by omega) (by omega)]
 have T:K<=sw:=ajq O (by unfold sw;omega);have f:=oe n.bd (body:=oR n) (fun i x=>if Bz N n.bd i x=true then none else some false) (by omega) (fun i x G=>by
  have hi:=aO G;obtain⟨s,u⟩:=P x (ajM G);simp only[oR];rw[if_pos (by simp;omega),aU G,akO,mz,akO,F];have g:(if (!decide (0<=x.db∧x.db<=(N:Int)-1))=true then some true
   else (fu x.kq 0 ((N:Int)-1)).bind fun H =>
    if (!H)=true then some true
    else (cP x.gj).bind fun I=>if (!I)=true then some true else (iz x.gj).bind fun J=>some (decide (J<=0)))=some (!Yc N x):=by
   unfold Yc
   by_cases U:0<=x.db∧x.db<=(N:Int)-1
   rotate_left
   ·grind
   rw[decide_eq_true U,mz,akO]
   by_cases V:0<=x.kq∧x.kq<=(N:Int)-1
   rotate_left
   ·grind
   rw[decide_eq_true V,xj ⟨by omega,by omega⟩,akO];cases k:okF x.gj with
   | false=>simp
   | true =>
    obtain⟨q,k⟩:=qv.1 k;rw[k]at s u ⊢;have l:=qp s u;rw[zZ (by unfold eX;omega),akO];have:(cy q).bQ.aq=q.num.sign:=rfl;rw[this]
    by_cases c3:q.num.sign<=0
    ·simp_all
    simp_all
  rw[g,akO];unfold Bz;cases W:Yc N x with
  | false=>simp
  | true =>
   simp only[akE,ajT,if_false,akF];cases i with
   | zero=>rw[if_neg (by simp),a7 (by omega)];simp
   | succ i =>
    rw[if_pos (by simp)];have Q:n.bd[i]? = some n.bd[i]:=ajA (by omega);have X:IntKind.i64.wrap (((i+1:Nat):Int)-1)=(i:Int):=by rw[wrap64 (by omega) (by omega)];omega
    obtain⟨c,L,v⟩:=Xj n.bd[i] x;rw[X,aU Q,akO,L,akO,ak0,Q];simp only[Nat.add_eq_zero_iff,alf,and_false,decide_false,akh]
    by_cases hb:Xi n.bd[i] x
    ·rw[if_neg (by simp;exact v.2 hb),decide_eq_true hb,a7 (by omega)];rfl
    ·rw[if_pos (by simp only[decide_eq_true_eq];have:¬c<0:=fun h=>hb (v.1 h);omega),decide_eq_false hb];rfl) (by
  unfold oR;simp_all)
 rw[f,akO];cases w:eN (fun i x=>if Bz N n.bd i x=true then none else some false) 0 n.bd with
 | some r =>
  obtain⟨j,x,Y,y,_⟩:=dn w;simp only[akl]at y;split at y
  ·cases y
  rename_i z;cases y;refine⟨false,rfl,?_⟩;simp only[ajT,false_iff];exact aaR e Y z
 | none =>
  have A:=cV.1 w;simp only[akl]at A;have m:∀(j:Nat) x,n.bd[j]? = some x->Bz N n.bd j x=true:=fun j x hj=>by
   simp_all
  obtain⟨tk,Z,d,o,l,aa⟩:=aaQ e (by omega) P m;have a:tk.length<=8000:=by omega
  have B:N<=2000:=by omega
  simp only;rw[Z,Qc B a (fun t ht=>(d t ht).1) O l,akO];have C:((List.range N).map fun p=>cy (fm tk p))=((List.range N).map fun p=>fm tk p).map cy:=by simp_all
  rw[C,FD (by simp;omega) (fun q k=>by
   obtain⟨p,_,rfl⟩:=ajn.1 k;have:=NT l p;have y:tk.length*(K+1)<=8000*1000001:=alL a (by omega);unfold eX;omega),akO]
  refine⟨_,rfl,?_⟩;simp only[Bool.not_eq_true',decide_eq_false_iff_not];constructor
  ·intro ab;refine⟨N,tk,rfl,⟨B,a,d,o,fun p R =>?_⟩⟩
   by_cases h0:fm tk p<0
   ·simp_all
   ·grind
  ·rintro⟨M,ad,he,hR⟩ ⟨q,k,S⟩;obtain⟨rfl,rfl⟩:=MO he;obtain⟨p,R,rfl⟩:=ajn.1 k;have:=hR.leak p (akR.1 R);grind
def BL:∀(N:Nat) (l:List Nat),l.Nodup->(∀x∈l,x<N)->l.length<=N
 | 0,l,_,h=>by
  cases l with
  | nil=>simp
  | cons x l=>exact absurd (h x (akJ ..)) (by omega)
 | N+1,l,a,h=>by
  have b:=BL N (l.erase N) (a.erase N) fun x c=>by
   have d:=h x (List.mem_of_mem_erase c);have f:x≠N:=fun e=>by subst e;exact (List.Nodup.mem_erase_iff a).1 c |>.1 rfl
   omega
  rw[List.length_erase]at b;split at b<;>omega
def ma (l:List Nat):List Int:=l.map fun (p:Nat)=>(p:Int)
def abw {l:List Nat} {i p:Nat} (h:l[i]? = some p):(ma l)[i]? = some (p:Int):=by unfold ma;rw[ajl,h];rfl
def qM (l:List Nat):(ma l).length=l.length:=ajP ..
def mQ (tk:List Tk) (p:Nat):List Nat:=(tk.filter fun t=>decide (t.2.1=p)).map fun t=>t.1
def KF {tk:List Tk} {p q:Nat} : q∈mQ tk p↔∃t∈tk,t.1=q∧t.2.1=p:=by
 unfold mQ;simp only[ajn,akP,decide_eq_true_eq];constructor
 ·rintro⟨t,⟨a,b⟩,c⟩;exact⟨t,a,c,b⟩
 ·rintro⟨t,a,c,b⟩;exact⟨t,⟨a,b⟩,c⟩
def Jm (tk:List Tk) (p:Nat):(mQ tk p).length<=tk.length:=by
 unfold mQ;rw[ajP];exact alM ..
def SI {tk:List Tk} {i:Nat} {t:Tk} (h:tk[i]? = some t) (p:Nat):mQ (tk.take (i+1)) p=if t.2.1=p then mQ (tk.take i) p++[t.1] else mQ (tk.take i) p:=by
 obtain⟨b,c⟩:=ajO.1 h;unfold mQ;rw[alK b,alO,akG,c]
 by_cases a:t.2.1=p
 ·rw[if_pos a,alP (by simpa using a)];rfl
 ·rw[if_neg a,alQ (by simpa using a)];simp
structure pH (N:Nat) (tk:List Tk) (r:Nat->Int):Prop where
 ge:∀p,p<N -> -1<=r p
 zero:∀p,p<N->(r p=0↔0<fm tk p)
 down:∀p,p<N->0<r p->∃t∈tk,t.1=p∧r t.2.1=r p-1
 near:∀t∈tk,0<=r t.2.1->0<=r t.1∧r t.1<=r t.2.1+1
 le:∀p,p<N->r p<=2000
structure BF (N:Nat) (tk:List Tk) (r:Nat->Int) (D Q:List Nat) (h m:Int):Prop where
 nodup:(D++Q).Nodup
 lt:∀p∈D++Q,p<N
 rk:∀p,p<N->(0<=r p↔p∈D++Q)
 ge:∀p,p<N -> -1<=r p
 zero:∀p,p<N->(r p=0↔0<fm tk p)
 down:∀p,p<N->0<r p->∃t∈tk,t.1=p∧r t.2.1=r p-1
 near:∀t∈tk,t.2.1∈D->0<=r t.1∧r t.1<=r t.2.1+1
 mono:Q.Pairwise fun a b=>r a<=r b
 top:∀p∈D++Q,r p<=h+1
 low:∀q∈Q,h<=r q
 bnd:∀p,p<N->r p<=m
def YN (r:Nat->Int) (q:Nat) (v:Int):Nat->Int:=fun x=>if x=q then v else r x
def my (r:Nat->Int) (q:Nat) (v:Int):YN r q v q=v:=if_pos rfl
def jN {r:Nat->Int} {q x:Nat} (v:Int) (h:x≠q):YN r q v x=r x:=if_neg h
def BF.pop {N:Nat} {tk:List Tk} {r:Nat->Int} {D Q:List Nat} {p:Nat} {h m:Int} (a:BF N tk r D (p::Q) h m):BF N tk r D (p::Q) (r p) (m+1)∧0<=r p∧p<N∧r p<=m where
 left:={
  nodup:=a.nodup,lt:=a.lt,rk:=a.rk,ge:=a.ge,zero:=a.zero,down:=a.down,near:=a.near,mono:=a.mono
  top:=fun x b=>by
   have f:=a.top x b;have g:=a.low p (akJ ..);omega
  low:=fun q c=>by
   rcases aju.1 c with rfl|c
   ·exact Int.le_refl _
   ·exact (akQ.1 a.mono).1 q c
  bnd:=fun x b=>by have:=a.bnd x b;omega }
 right:=by
  have e:p∈D++p::Q:=ajC _ (akJ ..);have d:=a.lt p e;exact⟨(a.rk p d).2 e,d,a.bnd p d⟩
def BF.push {N:Nat} {tk:List Tk} {r:Nat->Int} {D Q:List Nat} {p q:Nat} {m:Int} (f:BF N tk r D (p::Q) (r p) m) (z:0<=r p) (A:r p+1<=m) (v:q<N) (B:r q = -1) (C:∃t∈tk,t.1=q∧t.2.1=p) :
  BF N tk (YN r q (r p+1)) D (p::(Q++[q])) (r p) m∧YN r q (r p+1) p=r p:=by
 have hqn:q∉D++p::Q:=fun h=>by have:=(f.rk q v).2 h;omega
 have g:∀x,x∈D++p::(Q++[q])↔x∈D++p::Q∨x=q:=fun x=>by
  simp only[akI,aju,alR,or_false];constructor
  ·rintro (h|h|h|h)<;>simp[h]
  ·rintro ((h|h|h)|h)<;>simp[h]
 have d:∀x,x∈D++p::Q->x≠q:=fun x c e=>hqn (e ▸ c);have s:p∈D++p::Q:=ajC _ (akJ ..);have l:p≠q:=d p s;refine⟨?_,jN _ l⟩;constructor
 ·have:D++p::(Q++[q])=(D++p::Q)++[q]:=by simp
  rw[this,List.nodup_append];refine⟨f.nodup,by simp,fun a j b i =>?_⟩;simp only[aju,alR,or_false]at i;subst i;exact d a j
 ·intro x c;rcases (g x).1 c with h|rfl
  ·exact f.lt x h
  ·exact v
 ·intro x c;rw[g]
  by_cases h:x=q
  ·subst h;rw[my];exact⟨fun _ =>.inr rfl,fun _=>by omega⟩
  ·rw[jN _ h,f.rk x c];exact⟨.inl,fun k=>k.elim id fun e=>absurd e h⟩
 ·intro x c
  by_cases h:x=q
  ·subst h;rw[my];omega
  ·rw[jN _ h];exact f.ge x c
 ·intro x c
  by_cases h:x=q
  ·subst h;rw[my];have:=f.zero x c;constructor
   ·intro h;omega
   ·intro h;have:=this.2 h;omega
  ·rw[jN _ h];exact f.zero x c
 ·intro x c w
  by_cases h:x=q
  ·subst h;obtain⟨t,h1,n,o⟩:=C;refine⟨t,h1,n,?_⟩;rw[o,jN _ l,my];omega
  ·rw[jN _ h]at w ⊢;obtain⟨t,h1,n,o⟩:=f.down x c w;refine⟨t,h1,n,?_⟩;rw[jN _ (fun e=>by rw[e,B]at o;omega)];exact o
 ·intro t u y;obtain⟨h1,n⟩:=f.near t u y;have E:t.2.1≠q:=d _ (ajB _ y);have F:t.1≠q:=fun e=>by rw[e]at h1;omega
  rw[jN _ E,jN _ F];exact⟨h1,n⟩
 ·have h1:=f.mono;have:p::(Q++[q])=(p::Q)++[q]:=by simp
  rw[this,List.pairwise_append];refine⟨h1.imp_of_mem fun {a b} j i h =>?_,by simp,fun a j b i =>?_⟩
  ·rw[jN _ (d a (ajC _ j)),jN _ (d b (ajC _ i))];exact h
  ·simp only[aju,alR,or_false]at i;subst i;rw[jN _ (d a (ajC _ j)),my];exact f.top a (ajC _ j)
 ·intro x c;rcases (g x).1 c with h|rfl
  ·rw[jN _ (d x h)];exact f.top x h
  ·rw[my];exact Int.le_refl _
 ·intro x c
  by_cases h:x=q
  ·subst h;rw[my];omega
  ·rw[jN _ h];apply f.low x;simp only[aju,akI,alR,or_false]at c ⊢;rcases c with h1|h1|h1
   ·exact .inl h1
   ·exact .inr h1
   ·exact absurd h1 h
 ·intro x c
  by_cases h:x=q
  ·subst h;rw[my];exact A
  ·rw[jN _ h];exact f.bnd x c
def BF.finish {N:Nat} {tk:List Tk} {r:Nat->Int} {D Q:List Nat} {p:Nat} {h m:Int} (hB:BF N tk r D (p::Q) h m) (b:∀q∈mQ tk p,0<=r q∧r q<=r p+1):BF N tk r (D++[p]) Q h m:=by
 have e:(D++[p])++Q=D++p::Q:=by simp
 exact {
  nodup:=by rw[e];exact hB.nodup
  lt:=by rw[e];exact hB.lt
  rk:=by rw[e];exact hB.rk
  ge:=hB.ge,zero:=hB.zero,down:=hB.down
  near:=fun t a c=>by
   rcases akI.1 c with h1|h1
   ·exact hB.near t a h1
   ·simp only[aju,alR,or_false]at h1;rw[h1];exact b t.1 (KF.2 ⟨t,a,rfl,h1⟩)
  mono:=(akQ.1 hB.mono).2
  top:=by rw[e];exact hB.top
  low:=fun q d=>hB.low q (akK _ d)
  bnd:=hB.bnd }
def BF.abL {N:Nat} {tk:List Tk} {r:Nat->Int} {D:List Nat} {h m:Int} (a:BF N tk r D [] h m) (b:∀t∈tk,t.1<N∧t.2.1<N) (d:m<=2000):pH N tk r where
 ge:=a.ge
 zero:=a.zero
 down:=a.down
 near t h1 h2:=a.near t h1 (by have:=(a.rk t.2.1 (b t h1).2).1 h2;simpa using this)
 le p c:=by have:=a.bnd p c;omega
def abX {α:Type} (a:α) (l:List α):EZ (a::l) 1 ((a::l).length:Int)=some l:=by
 unfold EZ;rw[if_pos ⟨by omega,by simp;omega,by omega⟩];simp
variable {N:Nat} {tk:List Tk}
def TQ {r:Nat->Int} {D Q:List Nat} {p:Nat} {m:Int} (E:BF N tk r D (p::Q) (r p) m) (F:p<N) (G:0<=r p) (P:r p+1<=m) (H:m<=2001) (y:∀t∈tk,t.1<N∧t.2.1<N) (B:tk.length<=8000) (R:N<=2000) :
  ∃b d,aQ (mm (p:Int) (ma (mQ tk p))) ((0:Int),(List.range N).map r,ma Q)=some ((List.range N).map b,ma d)∧BF N tk b (D++[p]) d (r p) m:=by
 have I:=Jm tk p;have key:=fun J K=>qG (body:=mm (p:Int) (ma (mQ tk p))) (mQ tk p) (by omega) (fun i (s:List Int×List Int)=>∃b d,s=((List.range N).map b,ma d)∧BF N tk b D (p::d) (r p) m∧b p=r p∧∀q∈(mQ tk p).take i,0<=b q∧b q<=r p+1)
  (fun x=>∃b d,x=((List.range N).map b,ma d)∧BF N tk b (D++[p]) d (r p) m) (s0:=((List.range N).map r,ma Q)) ⟨r,Q,rfl,E,rfl,fun q j=>by simp at j⟩ J K
 refine (key ?_ ?_).elim fun x ⟨k,b,d,e,v⟩=>⟨b,d,e ▸ k,v⟩
 ·rintro i q _ j ⟨b,d,rfl,c,f,a⟩;have L:=aO j;have z:=ajM j;obtain⟨t,l,n,A⟩:=KF.1 z;have h:q<N:=by rw[<- n];exact (y t l).1
  have g:(mQ tk p).take (i+1)=(mQ tk p).take i++[q]:=by
   rw[alK L,(ajO.1 j).2]
  have M:d.length<=N:=by
   have k:=BL N (D++p::d) c.nodup c.lt;simp only[akn,List.length_cons]at k;omega
  simp only[mm];rw[if_pos (by rw[qM];simp;omega),aU (abw j),akO,aU (dx b h),akO]
  by_cases w:b q = -1
  ·rw[if_pos (by rw[w];rfl),aU (dx b F),akO,f,It (by rw[qM];simp;omega),akO,a7 (by omega),ake,gX];have O:IntKind.i64.wrap (r p+1)=r p+1:=wrap64 (by omega) (by omega);rw[O];have o:=c;rw[<- f]at o;obtain⟨k,v⟩:=o.push (by omega) (by omega) h w ⟨t,l,n,A⟩;rw[f]at k v;refine⟨_,rfl,YN b q (r p+1),d++[q],?_,k,v,fun x e =>?_⟩
   ·unfold ma YN;simp
   ·rw[g]at e;rcases akI.1 e with e|e
    ·have:=a x e
     by_cases u:x=q
     ·subst u;rw[w]at this;omega
     ·rw[jN _ u];exact this
    ·simp only[aju,alR,or_false]at e;subst e;rw[my];omega
  ·rw[if_neg (by simpa using w),a7 (by omega)];refine⟨_,rfl,b,d,rfl,c,f,fun x e =>?_⟩;rw[g]at e;rcases akI.1 e with e|e
   ·exact a x e
   ·simp only[aju,alR,or_false]at e;subst e;have C:0<=b x:=by have:=c.ge x h;omega
    exact⟨C,c.top x ((c.rk x h).1 C)⟩
 ·rintro _ ⟨b,d,rfl,c,f,a⟩;refine⟨_,?_,b,d,rfl,c.finish fun q j =>?_⟩
  ·simp only[mm];rw[if_neg (by rw[qM];simp)]
  ·rw[alj]at a;rw[f];exact a q j
def TR {r:Nat->Int} {Q:List Nat} (v:BF N tk r [] Q 0 0) (e:∀t∈tk,t.1<N∧t.2.1<N) (f:tk.length<=8000) (w:N<=2000) :
  ∃b,aQ (ml ((List.range N).map fun p=>ma (mQ tk p))) ((List.range N).map r,ma Q)=some ((List.range N).map b)∧pH N tk b:=by
 have key:=fun y=>eB (body:=ml ((List.range N).map fun p=>ma (mQ tk p))) (fun i (s:List Int×List Int)=>∃b D d h,s=((List.range N).map b,ma d)∧D.length=i∧BF N tk b D d h (i:Int)) N
  (fun x=>∃b,x=(List.range N).map b∧pH N tk b) (s:=((List.range N).map r,ma Q)) ⟨r,[],Q,0,rfl,rfl,v⟩ (mX (by omega)) y
 refine (key ?_).elim fun x ⟨g,b,z,j⟩=>⟨b,z ▸ g,j⟩
 ·rintro i _ E ⟨b,D,d,h,rfl,A,c⟩;cases d with
  | nil =>
   refine .inr ⟨_,?_,b,rfl,c.abL e (by omega)⟩;simp only[ml,ma,aj5];rw[if_neg (by simp)]
  | cons p d =>
   obtain⟨k,m,o,B⟩:=c.pop;have n:i<N:=by
    have g:=BL N (D++p::d) c.nodup c.lt;simp only[akn,List.length_cons]at g;omega
   obtain⟨q,u,g,j⟩:=TQ k o m (by omega) (by omega) e f w;refine .inl ⟨n,((List.range N).map q,ma u),?_,q,D++[p],u,b p,rfl,by simp[A],by simpa using j⟩;simp only[ml];have C:ma (p::d)=(p:Int)::ma d:=rfl;rw[C,if_pos (by simp),idx_zero' ,akO,abX,akO,aU (dx (fun p=>ma (mQ tk p)) o),akO,g,akO]
where
 idx_zero':∀ {α:Type} {a:α} {l:List α},P.idx (a::l) 0=some a:=fun {_ a l}=>aU (l:=a::l) (i:=0) rfl
def Xh {L:Nat} (b:∀t∈tk,t.1<N∧t.2.1<N) (g:tk.length<=8000) :
  aQ (mi (rn N tk)) ((0:Int),List.replicate N ([]:List Int))=some ((List.range N).map fun p=>ma (mQ tk p)):=by
 unfold rn;have key:=fun k m=>qG (body:=mi (gS.mk (N:Int) (tk.map yi))) tk (by omega) (fun i l=>l=(List.range N).map fun p=>ma (mQ (tk.take i) p)) (fun l=>l=(List.range N).map fun p=>ma (mQ tk p)) (s0:=List.replicate N ([]:List Int))
  (fZ (by simp) fun j n=>by rw[alS,if_pos n,List.take_zero];rfl) k m
 refine (key ?_ ?_).elim fun x ⟨o,hx⟩=>hx ▸ o
 ·rintro i t _ a rfl;have r:=aO a;have c:=(b t (ajM a)).2;have q:(tk.map yi)[i]? = some (yi t):=by rw[ajl,a];rfl
  have d:=Jm (tk.take i) t.2.1;rw[ajE]at d;refine⟨_,?_,rfl⟩;simp only[mi];rw[if_pos (by simp;omega),aU q,akO];simp only[yi];rw[aU (dx _ c),akO,It (by rw[qM];simp;omega),akO,a7 (by omega),ake,gX];congr 3;refine congrArg (fun f=>(List.range N).map f) (funext fun p =>?_);rw[SI a]
  by_cases h:p=t.2.1
  ·subst h;rw[if_pos rfl,if_pos rfl];unfold ma;simp
  ·rw[if_neg h,if_neg (fun e=>h e.symm)]
 ·rintro _ rfl;refine⟨_,?_,rfl⟩;simp only[mi];rw[if_neg (by simp),alj]
def D8 (tk:List Tk) (p:Nat):Int:=if 0<fm tk p then 0 else -1
def oZ (tk:List Tk) (n:Nat):List Nat:=(List.range n).filter fun p=>decide (0<fm tk p)
def Rp (tk:List Tk) (n:Nat):oZ tk (n+1)=if 0<fm tk n then oZ tk n++[n] else oZ tk n:=by
 unfold oZ;rw[alT,alO]
 by_cases h:0<fm tk n
 ·rw[if_pos h,alP (by simpa using h)];rfl
 ·rw[if_neg h,alQ (by simpa using h)];simp
def XN {K:Nat} (n:N<=2000) (a:tk.length<=8000) (o:K<=1000000) (d:∀t∈tk,LF t.2.2<=K) :
  aQ (mj ((List.range N).map fun p=>cy (fm tk p))) ((0:Int),List.replicate N (0:Int),([]:List Int))=some ((List.range N).map (D8 tk),ma (oZ tk N)):=by
 have key:=fun d g=>qG (body:=mj ((List.range N).map fun p=>cy (fm tk p))) (List.range N) (by simp;omega) (fun i (s:List Int×List Int)=>s=((List.range N).map (fun p=>if p<i then D8 tk p else 0),ma (oZ tk i))) (fun s=>s=((List.range N).map (D8 tk),ma (oZ tk N))) (s0:=(List.replicate N (0:Int),([]:List Int)))
  (by rw[show oZ tk 0=[] from rfl];refine Prod.ext ?_ rfl;exact fZ (by simp) fun j c=>by rw[alS,if_pos c,if_neg (by omega)]) d g
 refine (key ?_ ?_).elim fun x ⟨k,hx⟩=>hx ▸ k
 ·rintro i x _ hx rfl;have e:i<N:=by have:=aO hx;simpa using this
  have l:=NT d i;have r:tk.length*(K+1)<=8000*1000001:=alL a (by omega);have m:(oZ tk i).length<=i:=by unfold oZ;have:=alM (fun p=>decide (0<fm tk p)) (List.range i);simpa using this
  refine⟨_,?_,rfl⟩;simp only[mj];rw[if_pos (by simp;omega),aU (dx (fun p=>cy (fm tk p)) e),akO,aU (dx _ e),akO,zZ (by unfold eX;omega),akO,ake,gX,gX,a7 (by omega),Rp]
  by_cases hl:0<fm tk i
  ·rw[if_pos (by simpa using EV.2 hl),aU (dx _ e),akO,It (by rw[qM];simp;omega),akO,if_pos hl];refine congrArg some (congrArg Sum.inl (congrArg (Prod.mk _) (Prod.ext ?_ ?_)))
   ·refine congrArg (fun f=>(List.range N).map f) (funext fun p =>?_)
    by_cases h:p=i
    ·subst h;rw[if_pos rfl,if_pos (by omega)];unfold D8;rw[if_pos hl]
    ·rw[if_neg h,if_neg h]
     by_cases b:p<i
     ·rw[if_pos b,if_pos (by omega)]
     ·rw[if_neg b,if_neg (by omega)]
   ·unfold ma;simp
  ·rw[if_neg (by simpa using fun h=>hl (EV.1 h)),if_neg hl];refine congrArg some (congrArg Sum.inl (congrArg (Prod.mk _) (Prod.ext ?_ rfl)));refine congrArg (fun f=>(List.range N).map f) (funext fun p =>?_)
   by_cases h:p=i
   ·subst h;rw[if_pos rfl,if_pos (by omega)];unfold D8;rw[if_neg hl]
   ·rw[if_neg h]
    by_cases b:p<i
    ·rw[if_pos b,if_pos (by omega)]
    ·rw[if_neg b,if_neg (by omega)]
 ·rintro _ rfl;refine⟨_,?_,rfl⟩;simp only[mj];rw[if_neg (by simp),ajQ];refine congrArg some (congrArg Sum.inr (Prod.ext ?_ rfl));refine fZ (by simp) fun j c =>?_;rw[dx _ c,if_pos c]
def adi (N:Nat) (tk:List Tk):BF N tk (D8 tk) [] (oZ tk N) 0 0:=by
 have f:∀p,p∈oZ tk N↔p<N∧0<fm tk p:=fun p=>by unfold oZ;simp[akP]
 have d:∀p,0<fm tk p->D8 tk p=0:=fun p h=>if_pos h;have g:∀p,¬0<fm tk p->D8 tk p = -1:=fun p h=>if_neg h;constructor
 ·rw[akV];unfold oZ;exact List.nodup_range.filter _
 ·intro p c;rw[akV]at c;exact ((f p).1 c).1
 ·intro p c;rw[akV,f]
  by_cases h:0<fm tk p
  ·rw[d p h];simp[c,h]
  ·rw[g p h];simp[h]
 ·intro p c
  by_cases h:0<fm tk p
  ·rw[d p h];omega
  ·rw[g p h];omega
 ·intro p c
  by_cases h:0<fm tk p
  ·rw[d p h];simp[h]
  ·rw[g p h];simp[h]
 ·intro p c e
  by_cases h:0<fm tk p
  ·rw[d p h]at e;omega
  ·rw[g p h]at e;omega
 ·intro t _ h;simp at h
 ·refine List.Pairwise.imp_of_mem (R:=fun _ _=>True) (fun {a b} i j _ =>?_) (List.pairwise_of_forall (fun _ _=>trivial));rw[d a ((f a).1 i).2,d b ((f b).1 j).2];exact Int.le_refl _
 ·intro p c;rw[akV]at c;rw[d p ((f p).1 c).2];omega
 ·intro q k;rw[d q ((f q).1 k).2];omega
 ·intro p c
  by_cases h:0<fm tk p
  ·rw[d p h];omega
  ·rw[g p h];omega
def abM {K:Nat} (e:kR N tk) (g:K<=1000000) (h:∀t∈tk,LF t.2.2<=K):∃r,jV (rn N tk)=some ((List.range N).map r)∧pH N tk r:=by
 have f:=e.ports;have a:=e.takes;have c:∀t∈tk,t.1<N∧t.2.1<N:=fun t d=>⟨(e.ok t d).1,(e.ok t d).2.1⟩;obtain⟨b,i,j⟩:=Lc (n:=rn N tk) g (fun t d=>by
  simp only[rn,ajn]at d;obtain⟨l,k,rfl⟩:=d;exact Ba (h l k))
 obtain rfl:b=true:=j.2 ⟨N,tk,rfl,e⟩;obtain⟨m,k,o⟩:=TR (adi N tk) c a f;refine⟨m,?_,o⟩;unfold jV;rw[i,akO];simp only[akE,ajT,if_false];have p:(rn N tk).aB=(N:Int):=rfl;rw[p,D1 _ (by omega) f,akO,Xh (L:=0) c a,akO,D1 _ (by omega) f,akO,Qc f a (fun t d=>(c t d).1) g h,akO,XN f a g h,akO];simp only;rw[k,akO]
def mD (N:Nat) (r:Nat->Int):List Nat:=(List.range N).filter fun p=>decide (r p = -1)
def Uh (n:Nat) (r:Nat->Int):mD (n+1) r=if r n = -1 then mD n r++[n] else mD n r:=by
 unfold mD;rw[alT,alO]
 by_cases h:r n = -1
 ·rw[if_pos h,alP (by simpa using h)];rfl
 ·rw[if_neg h,alQ (by simpa using h)];simp
def Ui {r:Nat->Int} (j:N<=2000) (h:jV (rn N tk)=some ((List.range N).map r)):lC (rn N tk)=some (ma (mD N r)):=by
 unfold lC;rw[h,akO];have key:=fun b c=>qG (body:=jW ((List.range N).map r)) (List.range N) (by simp;omega) (fun i l=>l=ma (mD i r)) (fun l=>l=ma (mD N r)) (s0:=([]:List Int)) rfl b c;have d:aQ (jW ((List.range N).map r)) ((0:Int),[])=some (ma (mD N r)):=by
  refine (key ?_ ?_).elim fun x ⟨e,hx⟩=>hx ▸ e
  ·rintro i x _ hx rfl;have f:i<N:=by have:=aO hx;simpa using this
   have g:(mD i r).length<=i:=by unfold mD;have:=alM (fun p=>decide (r p = -1)) (List.range i);simpa using this
   refine⟨_,?_,rfl⟩;simp only[jW];rw[if_pos (by simp;omega),aU (dx r f),akO,a7 (by omega),Uh]
   by_cases a:r i = -1
   ·rw[if_pos (by rw[a];rfl),It (by rw[qM];simp;omega),akO,if_pos a];unfold ma;simp
   ·rw[if_neg (by simpa using a),if_neg a]
  ·rintro _ rfl;refine⟨_,?_,rfl⟩;simp only[jW];rw[if_neg (by simp),ajQ]
 rw[d,akO]
end Go.Proofs.YtobnihfgnbnncaaGreat.P
namespace Go.Proofs.YtobnihfgnbnncaaGreat.P
open Go.RowKit
def sm:Nat->(Nat->Rat)->Rat
 | 0,_=>0
 | n+1,f=>sm n f+f n
def HS {n:Nat} {f g:Nat->Rat} (h:∀i,i<n->f i=g i):sm n f=sm n g:=by
 induction n with
 | zero=>rfl
 | succ n a=>rw[sm,sm,a fun i b=>h i (by omega),h n (by omega)]
def abY (n:Nat) (f g:Nat->Rat):sm n (fun i=>f i+g i)=sm n f+sm n g:=by
 induction n with
 | zero=>simp only[sm];grind
 | succ n a=>simp only[sm];rw[a];grind
def abZ (n:Nat) (f g:Nat->Rat):sm n (fun i=>f i-g i)=sm n f-sm n g:=by
 induction n with
 | zero=>simp only[sm];grind
 | succ n a=>simp only[sm];rw[a];grind
def C7 {n:Nat} {f:Nat->Rat} (h:∀i,i<n->0<=f i):0<=sm n f:=by
 induction n with
 | zero=>simp only[sm];grind
 | succ n a =>
  have b:=a fun i c=>h i (by omega);have d:=h n (by omega);simp only[sm];grind
def Wr {n:Nat} {f:Nat->Rat} (h:∀i,i<n->0<=f i) (a:sm n f<=0):∀i,i<n->f i=0:=by
 induction n with
 | zero=>intro i b;omega
 | succ n c =>
  have d:=C7 (n:=n) fun i b=>h i (by omega);have e:=h n (by omega);simp only[sm]at a;grind
def ad0 (n:Nat):sm n (fun _=>0)=0:=by
 induction n with
 | zero=>rfl
 | succ n a=>simp only[sm];rw[a];grind
def Lo {n t:Nat} (v:Rat) (h:t<n):sm n (fun p=>if t=p then v else 0)=v:=by
 induction n with
 | zero=>omega
 | succ n b =>
  simp only[sm]
  by_cases a:t=n
  ·subst a;rw[HS (g:=fun _=>0) fun i c=>if_neg (by omega),ad0,if_pos rfl];grind
  grind
def uZ:List Tk->(Nat->Rat)->Nat->Rat
 | [],_,_=>0
 | t::l,x,p=>(if t.2.1=p then t.2.2*x t.1 else 0)+uZ l x p
def adg (l:List Tk) (x y:Nat->Rat) (p:Nat):uZ l (fun j=>x j+y j) p=uZ l x p+uZ l y p:=by
 induction l with
 | nil=>simp only[uZ];grind
 | cons t l a=>simp only[uZ];grind
def adh (l:List Tk) (x y:Nat->Rat) (p:Nat):uZ l (fun j=>x j-y j) p=uZ l x p-uZ l y p:=by
 induction l with
 | nil=>simp only[uZ];grind
 | cons t l a=>simp only[uZ];grind
def ER (l:List Tk) (c:Rat) (x:Nat->Rat) (p:Nat):uZ l (fun j=>c*x j) p=c*uZ l x p:=by
 induction l with
 | nil=>simp only[uZ];grind
 | cons t l a=>simp only[uZ];grind
def x4 {x y:Nat->Rat} {p:Nat} : ∀ {l:List Tk},(∀t∈l,0<=t.2.2)->(∀t∈l,t.2.1=p->x t.1<=y t.1)->uZ l x p<=uZ l y p
 | [],_,_=>by simp only[uZ];grind
 | t::l,h0,h=>by
  simp only[uZ];have c:=x4 (l:=l) (fun t a=>h0 t (akK _ a)) fun t a=>h t (akK _ a);have a:=h0 t (akJ ..)
  by_cases b:t.2.1=p
  ·rw[if_pos b,if_pos b];have:=Rat.mul_le_mul_of_nonneg_left (h t (akJ ..) b) a;grind
  grind
def GD {x:Nat->Rat} {p:Nat} {l:List Tk} (a:∀t∈l,0<=t.2.2) (h:∀t∈l,t.2.1=p->0<=x t.1):0<=uZ l x p:=by
 have:=x4 (x:=fun _=>0) (y:=x) (p:=p) a h;have b:uZ l (fun _=>0) p=0:=by
  have:=ER l 0 (fun _=>0) p;simp_all
 grind
def aaW {x:Nat->Rat} {p:Nat} : ∀ {l:List Tk},(∀t∈l,0<=t.2.2)->(∀t∈l,t.2.1=p->0<=x t.1)->∀t∈l,t.2.1=p->t.2.2*x t.1<=uZ l x p
 | [],_,_,t,a,_=>by cases a
 | t::l,h0,h,u,hu,c=>by
  simp only[uZ];have d:=GD (x:=x) (p:=p) (l:=l) (fun t a=>h0 t (akK _ a)) fun t a=>h t (akK _ a);rcases aju.1 hu with rfl|hu
  ·grind
  ·have e:=aaW (x:=x) (p:=p) (l:=l) (fun t a=>h0 t (akK _ a)) (fun t a=>h t (akK _ a)) u hu c
   by_cases b:t.2.1=p
   ·rw[if_pos b];have:=alU (h0 t (akJ ..)) (h t (akJ ..) b);grind
   grind
def VG {N:Nat} (x:Nat->Rat):∀ {l:List Tk},(∀t∈l,t.1<N∧t.2.1<N)->sm N (fun p=>uZ l x p)=sm N (fun q=>uM l q*x q)
 | [],_=>by simp only[uZ,uM];simp_all
 | t::l,h=>by
  simp only[uZ,uM];obtain⟨a,b⟩:=h t (akJ ..);rw[abY,Lo _ b,VG x fun t c=>h t (akK _ c)];have:sm N (fun q=>((if t.1=q then t.2.2 else 0)+uM l q)*x q)=sm N (fun q=>(if t.1=q then t.2.2*x t.1 else 0)+uM l q*x q):=HS fun q _=>by
   grind
  rw[this,abY,Lo _ a]
def El (x:Rat):Rat:=if 0<=x then x else -x
def N1 (x:Rat):0<=El x:=by unfold El;split<;>grind
def UR (x:Rat):x<=El x ∧ -x<=El x:=by unfold El;split<;>grind
def SD {x y:Rat} (a:x<=y) (b : -x<=y):El x<=y:=by unfold El;split<;>grind
def Xd {x:Rat} (h:El x=0):x=0:=by unfold El at h;grind
def adf {l:List Tk} (a:∀t∈l,0<=t.2.2) (x:Nat->Rat) (p:Nat):El (uZ l x p)<=uZ l (fun j=>El (x j)) p:=by
 refine SD (x4 a fun t _ _=>(UR _).1) ?_;have b:=ER l (-1) x p;have c : -uZ l x p=uZ l (fun j => -1*x j) p:=by rw[b];grind
 rw[c];exact x4 a fun t _ _=>by have:=(UR (x t.1)).2;grind
variable {N:Nat} {tk:List Tk} {r:Nat->Int}
def kR.pos (a:kR N tk):∀t∈tk,0<=t.2.2:=fun t b=>by have:=(a.ok t b).2.2;grind
def kR.rng (a:kR N tk):∀t∈tk,t.1<N∧t.2.1<N:=fun t b=>⟨(a.ok t b).1,(a.ok t b).2.1⟩
def AU (b:kR N tk) (j:pH N tk r) (n:∀p,p<N->0<=r p) {y:Nat->Rat} (hy:∀p,p<N->0<=y p) (o:∀p,p<N->y p<=uZ tk y p):∀p,p<N->y p=0:=by
 have s:=VG y b.rng;have c:∀p,p<N->0<=fm tk p*y p:=fun p a=>alU (b.leak p a) (hy p a);have d:∀p,p<N->0<=uZ tk y p-y p:=fun p a=>by grind
 have C:sm N (fun p=>fm tk p*y p)=sm N y-sm N (fun q=>uM tk q*y q):=by
  rw[<- abZ];exact HS fun p _=>by unfold fm;grind
 have D:sm N (fun p=>uZ tk y p-y p)=sm N (fun q=>uM tk q*y q)-sm N y:=by rw[abZ,s]
 have E:=C7 c;have F:=C7 d;have G:=Wr c (by grind);have v:=Wr d (by grind);have key:∀(k:Nat) p,p<N->r p=(k:Int)->y p=0:=by
  intro k
  induction k with
  | zero =>
   intro p a l;have H:=(j.zero p a).1 l;grind
  | succ k w =>
   intro p a l;obtain⟨t,g,rfl,z⟩:=j.down p a (by omega);have f:=(b.rng t g).2;have I:=w t.2.1 f (by omega);have e:=v t.2.1 f;have A:=aaW (x:=y) (p:=t.2.1) b.pos (fun u B _=>hy _ (b.rng u B).1) t g rfl;have m:=(b.ok t g).2.2;have i:=hy t.1 a;have J:t.2.2*y t.1<=0:=by grind
   have K:=alU (show 0<=t.2.2 by grind) i;rcases Rat.mul_eq_zero.1 (show t.2.2*y t.1=0 by grind) with h|h
   ·grind
   ·exact h
 intro p a;have:=n p a;exact key (r p).toNat p a (by omega)
def L4 (N:Nat) (tk:List Tk) (d x:Nat->Rat):Prop:=∀p,p<N->x p=d p+uZ tk x p
def T1 (a:kR N tk) (c:pH N tk r) (f:∀p,p<N->0<=r p) {d x y:Nat->Rat} (g:L4 N tk d x) (h:L4 N tk d y):∀p,p<N->x p=y p:=by
 intro p i;have:=AU a c f (y:=fun j=>El (x j-y j)) (fun _ _=>N1 _) (fun q b=>by
  have k:=adf a.pos (fun j=>x j-y j) q;rw[adh]at k;have e:x q-y q=uZ tk x q-uZ tk y q:=by have:=g q b;have:=h q b;grind
  simp_all) p i
 have:=Xd this;grind
def T0 (a:kR N tk) (b:pH N tk r) (c:∀p,p<N->0<=r p) {d x:Nat->Rat} (e:L4 N tk d x) (k:∀p,p<N->0<=d p):∀p,p<N->0<=x p:=by
 intro p f;have:=AU a b c (y:=fun j=>if 0<=x j then 0 else -x j) (fun j _=>by grind) (fun q g=>by
  have h:0<=uZ tk (fun j=>if 0<=x j then 0 else -x j) q:=GD a.pos fun t _ _=>by grind
  try simp only
  split
  ·exact h
  ·have i:=x4 (l:=tk) (p:=q) (x:=fun j => -1*x j) (y:=fun j=>if 0<=x j then 0 else -x j) a.pos fun t _ _=>by grind
   rw[ER]at i;have:=e q g;grind) p f
 grind
end Go.Proofs.YtobnihfgnbnncaaGreat.P
namespace Go.Proofs.YtobnihfgnbnncaaGreat.P
open Go.RowKit
abbrev Tm:=Nat×Rat
def kg (t:Tm):fQ:=fQ.mk (t.1:Int) (cy t.2)
structure QE where
 D:Rat
 T:List Tm
def mkEq (e:QE):aG:=aG.mk (cy e.D) (e.T.map kg)
def eE:List Tm->(Nat->Rat)->Rat
 | [],_=>0
 | t::l,x=>t.2*x t.1+eE l x
def qI (a b:List Tm) (x:Nat->Rat):eE (a++b) x=eE a x+eE b x:=by
 induction a with
 | nil=>simp only[List.nil_append,eE];grind
 | cons t a c=>simp only[List.cons_append,eE];rw[c];grind
abbrev j9 (T:List Tm):Prop:=T.Pairwise fun a b=>a.1<b.1
def pt (T:List Tm) (k:Nat):List Tm:=T.filter fun t=>decide (t.1<k)
def EP (T:List Tm) (k:Nat):List Tm:=T.filter fun t=>decide (k<t.1)
def fW:List Tm->Nat->Option Rat
 | [],_=>none
 | t::l,k=>if t.1=k then some t.2 else fW l k
def TB {T:List Tm} {k:Nat} {t:Tm} : t∈pt T k↔t∈T∧t.1<k:=by unfold pt;simp_all
def GU {T:List Tm} {k:Nat} {t:Tm} : t∈EP T k↔t∈T∧k<t.1:=by unfold EP;simp_all
def TA {T:List Tm} {k:Nat} (h:∀t∈T,k<=t.1):pt T k=[]:=by
 unfold pt;rw[List.filter_eq_nil_iff];grind
def aaT {T:List Tm} {k:Nat} (h:∀t∈T,k<t.1):EP T k=T:=by
 unfold EP;rw[List.filter_eq_self];grind
def Xn {T:List Tm} {k:Nat} (h:∀t∈T,t.1≠k):fW T k=none:=by
 induction T with
 | nil=>rfl
 | cons t T a=>rw[fW,if_neg (h t (akJ ..)),a fun u b=>h u (akK _ b)]
def zf {k:Nat} : ∀ {T:List Tm},j9 T->(fW T k=none∧T=pt T k++EP T k)∨∃c,fW T k=some c∧T=pt T k++(k,c)::EP T k
 | [],_ =>.inl ⟨rfl,rfl⟩
 | t::T,h=>by
  obtain⟨e,f⟩:=akQ.1 h;rcases alV t.1 k with hk|hk|hk
  ·have a:pt (t::T) k=t::pt T k:=alP (by simpa using hk);have b:EP (t::T) k=EP T k:=alQ (by simp;omega);have g:fW (t::T) k=fW T k:=by rw[fW,if_neg (by omega)]
   rw[a,b,g];rcases zf (k:=k) f with⟨i,j⟩|⟨c,i,j⟩
   ·grind
   grind
  ·subst hk;have a:pt (t::T) t.1=[]:=TA fun u d=>by
    grind
   have b:EP (t::T) t.1=T:=by
    rw[show EP (t::T) t.1=EP T t.1 from alQ (by simp),aaT e]
   refine .inr ⟨t.2,by rw[fW,if_pos rfl],?_⟩;rw[a,b];rfl
  ·have a:pt (t::T) k=[]:=TA fun u d=>by
    grind
   have b:EP (t::T) k=t::T:=aaT fun u d=>by
    grind
   refine .inl ⟨Xn fun u d =>?_,by rw[a,b];rfl⟩;grind
def nQ (T:List Tm) (k:Nat):List Tm:=pt T k++EP T k
def MG (T:List Tm) (k:Nat) (a:Rat):List Tm:=pt T k++(k,a)::EP T k
def Ff (T:List Tm) (k:Nat) (v:Rat):List Tm:=MG T k ((fW T k).getD 0+v)
def kf {T:List Tm} {k:Nat} {t:Tm} : t∈nQ T k↔t∈T∧t.1≠k:=by
 unfold nQ;rw[akI,TB,GU];grind
def MM {T:List Tm} {k:Nat} {a:Rat} {t:Tm} : t∈MG T k a↔t=(k,a)∨t∈nQ T k:=by
 unfold MG nQ;grind
def HU {T:List Tm} (h:j9 T) (k:Nat):j9 (nQ T k):=by
 unfold nQ;rw[j9,List.pairwise_append];refine⟨h.filter _,h.filter _,fun a c b d =>?_⟩;have:=(TB.1 c).2;have:=(GU.1 d).2;omega
def ab3 {T:List Tm} (h:j9 T) (k:Nat) (a:Rat):j9 (MG T k a):=by
 unfold MG;rw[j9,List.pairwise_append,akQ];refine⟨h.filter _,⟨fun b c=>(GU.1 c).2,h.filter _⟩,fun x d b c =>?_⟩;have e:=(TB.1 d).2;rcases aju.1 c with rfl|c
 ·exact e
 ·have:=(GU.1 c).2;omega
def y4 {T:List Tm} (h:j9 T) (k:Nat) (x:Nat->Rat):eE T x=eE (nQ T k) x+(fW T k).getD 0*x k:=by
 rcases zf (k:=k) h with⟨a,b⟩|⟨c,a,b⟩
 ·rw[a];unfold nQ;grind
 ·have e:eE T x=eE (pt T k++(k,c)::EP T k) x:=by rw[<- b]
  rw[e,a];unfold nQ;rw[qI,qI];simp only[eE,Option.getD_some];grind
def adq {T:List Tm} (k:Nat) (a:Rat) (x:Nat->Rat):eE (MG T k a) x=eE (nQ T k) x+a*x k:=by
 unfold MG nQ;rw[qI,qI];simp only[eE];grind
def ado {T:List Tm} (h:j9 T) (k:Nat) (v:Rat) (x:Nat->Rat):eE (Ff T k v) x=eE T x+v*x k:=by
 unfold Ff;rw[adq,y4 h k x];grind
def qC {T:List Tm} {k:Nat} {c:Rat} (h:fW T k=some c):(k,c)∈T:=by
 induction T with
 | nil=>cases h
 | cons t T a =>
  rw[fW]at h;grind
def Kz {x y:Nat->Rat} : ∀ {T:List Tm},(∀t∈T,x t.1=y t.1)->eE T x=eE T y
 | [],_=>rfl
 | t::T,h=>by rw[eE,eE,h t (akJ ..),Kz fun u a=>h u (akK _ a)]
def v7 {x:Nat->Rat} : ∀ {T:List Tm},(∀t∈T,0<=t.2)->(∀t∈T,0<=x t.1)->0<=eE T x
 | [],_,_=>by simp only[eE];grind
 | t::T,h,hx=>by
  have b:=alU (h t (akJ ..)) (hx t (akJ ..));have c:=v7 (T:=T) (fun u a=>h u (akK _ a)) fun u a=>hx u (akK _ a);simp only[eE];grind
def adp (T:List Tm) (c:Rat) (x:Nat->Rat):eE (T.map fun t=>(t.1,t.2 / c)) x=eE T x / c:=by
 induction T with
 | nil=>simp only[aj5,eE];grind
 | cons t T a=>simp only[ajt,eE];rw[a];grind
structure UN (N K:Nat) (T:List Tm):Prop where
 sorted:j9 T
 lt:∀t∈T,t.1<N
 sz:∀t∈T,LF t.2<=K
def UN.len {N K:Nat} {T:List Tm} (h:UN N K T):T.length<=N:=by
 have a:=BL N (T.map (·.1)) (by
  rw[List.Nodup,alo];exact h.sorted.imp fun h=>by omega) (fun x b=>by
  obtain⟨t,c,rfl⟩:=ajn.1 b;exact h.lt t c)
 simpa using a
def UN.rem {N K:Nat} {T:List Tm} (h:UN N K T) (k:Nat):UN N K (nQ T k):=⟨HU h.sorted k,fun t a=>h.lt t (kf.1 a).1,fun t a=>h.sz t (kf.1 a).1⟩
def UN.mono {N K a:Nat} {T:List Tm} (h:UN N K T) (b:K<=a):UN N a T:=⟨h.sorted,h.lt,fun t c=>ajq (h.sz t c) b⟩
def ahy (x:Int):AN .u64 x 1=some (x / 2):=by
 unfold AN;rw[if_neg (by decide)];have e:(2:Int) ^ (min (Int.toNat 1) IntKind.u64.bits)=2:=by decide
 grind
def aeR {k:Nat} : ∀ {T:List Tm},j9 T->∀(i:Nat) t,T[i]? = some t->(t.1<k↔i<(pt T k).length)
 | [],_,i,t,h=>by simp at h
 | a::T,hs,i,t,h=>by
  obtain⟨e,c⟩:=akQ.1 hs
  by_cases d:a.1<k
  ·have b:pt (a::T) k=a::pt T k:=alP (by simpa using d);rw[b,aj4];cases i with
   | zero=>simp_all
   | succ i =>
    have:=aeR (k:=k) c i t (by simpa using h);omega
  ·have b:pt (a::T) k=[]:=TA fun u f=>by
    grind
   grind
def Gd (t:Tm) (k:Nat):ee (kg t) (k:Int)=some (lT (t.1:Int) (k:Int)):=by
 unfold ee;rw[Cb];rfl
def OK {a b:Int} : lT a b<0↔a<b:=by unfold lT;omega
def JH {a b:Int} : lT a b=0↔a=b:=by unfold lT;omega
def SK {T:List Tm} (n:j9 T) (y:T.length<=2000) (k:Nat) :
  bB (T.map kg) (k:Int)=some (((pt T k).length:Int),(fW T k).isSome):=by
 have f:(pt T k).length<=T.length:=alM ..;have key:=fun g=>BE (body:=cg (T.map kg) (k:Int)) (I:=fun (s:Int×Int)=>∃b a:Nat,s=((b:Int),(a:Int))∧b<=(pt T k).length∧(pt T k).length<=a∧a<=T.length) (μ:=fun (s:Int×Int)=>(s.2-s.1).toNat)
  (fun r=>r=((pt T k).length:Int)) (s:=(0,((T.map kg).length:Int))) ⟨0,T.length,by simp,by omega,f,ajo _⟩ (by simp only[ajP];unfold FU;omega) g
 obtain⟨r,i,rfl⟩:=key (by
  rintro _ ⟨b,a,rfl,i,o,p⟩;simp only[cg]
  by_cases q:b<a
  ·have j:(b+a) / 2<T.length:=by omega
   have e:(T.map kg)[(b+a) / 2]? = some (kg T[(b+a) / 2]):=by simp_all
   have d:=aeR (k:=k) n ((b+a) / 2) _ (ajA j);have t:IntKind.i64.wrap ((b:Int)+a)=(b:Int)+a:=wrap64 (by omega) (by omega);have u:IntKind.u64.wrap ((b:Int)+a)=(b:Int)+a:=wu (by omega);have v:IntKind.i64.wrap (((b:Int)+a) / 2)=(((b+a) / 2:Nat):Int):=by rw[wrap64 (by omega) (by omega)];omega
   rw[if_pos (by simpa using q),t,u,ahy,akO,v,aU e,akO,Gd,akO];refine .inl ?_
   by_cases w:T[(b+a) / 2].1<k
   ·rw[if_pos (by simp only[decide_eq_true_eq];exact OK.2 (by omega)),a7 (by omega)];refine⟨_,rfl,⟨(b+a) / 2+1,a,rfl,by omega,o,p⟩,?_⟩;simp only;omega
   ·rw[if_neg (by simp only[decide_eq_true_eq];intro h;exact w (by have:=OK.1 h;omega))];refine⟨_,rfl,⟨b,(b+a) / 2,rfl,i,by omega,by omega⟩,?_⟩;simp only;omega
  grind)
 unfold bB;rw[i,akO];rcases zf (k:=k) n with⟨l,x⟩|⟨c,l,x⟩
 ·rw[l]
  by_cases d:(pt T k).length<T.length
  ·have e:(T.map kg)[(pt T k).length]? = some (kg T[(pt T k).length]):=by grind
   rw[if_pos (by simpa using d),aU e,akO,Gd,akO];have hne:T[(pt T k).length].1≠k:=by
    have j:T[(pt T k).length]∈pt T k++EP T k:=by grind
    rcases akI.1 j with h|h
    ·grind
    ·have:=(GU.1 h).2;omega
   have:lT (T[(pt T k).length].1:Int) (k:Int)≠0:=fun h=>hne (by have:=JH.1 h;omega);simp[this]
  grind
 ·rw[l];have m:T[(pt T k).length]? = some (k,c):=by
   grind
  have d:=aO m;have e:(T.map kg)[(pt T k).length]? = some (kg (k,c)):=by grind
  rw[if_pos (by simpa using d),aU e,akO,Gd,akO];have:lT ((k,c).1:Int) (k:Int)=0:=JH.2 rfl;rw[this];rfl
def find_eq {e:QE} (a:j9 e.T) (b:e.T.length<=2000) (k:Nat):dt (mkEq e) (k:Int)=some (mkEq e,((pt e.T k).length:Int),(fW e.T k).isSome):=by
 unfold dt mkEq;rw[SK a b,akO]
def Hz {a x y:Rat} (h:LF a+(LF x+LF y)+1<=eX):jG (cy a) (cy x) (cy y)=some (cy (a+x*y)):=by
 unfold jG;have:=su x y;rw[NX (by omega),akO];simp only;rw[NR (by omega),akO]
def afv:gO 0=some (cy 0):=Y9 (n:=0) (by decide)
def L0:LF 1<=1:=zY (n:=1) (by decide)
def Zl:LF 0<=1:=zY (n:=0) (by decide)
def agz (e:QE) (k:Nat) (v:Rat):QE:=⟨e.D,Ff e.T k v⟩
def agA {N K:Nat} {e:QE} (d:UN N K e.T) (q:N<=2000) {k:Nat} {v:Rat} (h:K+LF v+10<=eX):fv (mkEq e) (k:Int) (cy v)=some (mkEq (agz e k v),()):=by
 have r:=d.len;unfold fv;rw[find_eq d.sorted (by omega),akO];simp only;have g:=L0;rcases zf (k:=k) d.sorted with⟨a,i⟩|⟨c,a,i⟩
 ·rw[a];simp only[Option.isSome_none,ajT,if_false];have j:(pt e.T k).length<=e.T.length:=alM ..;have b:aaX 72 (mkEq e).cz ((pt e.T k).length:Int) [fQ.mk (k:Int) (cy v)]=some ((Ff e.T k v).map kg):=by
   unfold aaX mkEq;simp only[ajP,List.length_cons,List.length_nil,Int.toNat_natCast];rw[if_pos ⟨by omega,by omega,by omega,by omega⟩];congr 1;have f:e.T.map kg=(pt e.T k).map kg++(EP e.T k).map kg:=by grind
   unfold Ff MG;rw[a,f,List.take_left' (by simp),List.drop_left' (by simp),akG,ajt];simp only[Option.getD_none,List.cons_append,List.nil_append];congr 2;unfold kg;grind
  rw[b];rfl
 ·rw[a];simp only[Option.isSome_some,if_true];have l:e.T[(pt e.T k).length]? = some (k,c):=by
   grind
  have m:(e.T.map kg)[(pt e.T k).length]? = some (kg (k,c)):=by grind
  have n:LF c<=K:=d.sz (k,c) (qC a);have o:(mkEq e).cz=e.T.map kg:=rfl;rw[o,aU m,akO,adm,akO];simp only[kg];rw[Hz (by omega),akO,ake];unfold agz Ff MG mkEq;rw[a];simp only[Option.getD_some];have f:e.T.map kg=(pt e.T k).map kg++kg (k,c)::(EP e.T k).map kg:=by grind
  have p:((e.T.map fun t=>fQ.mk (t.1:Int) (cy t.2)).set (pt e.T k).length (fQ.mk (k:Int) (cy (c+v*1))))=(pt e.T k++(k,c+v)::EP e.T k).map kg:=by
   show (e.T.map kg).set (pt e.T k).length _=_;rw[f,List.set_append_right _ _ (by simp),ajP,akq,List.set_cons_zero,akG,ajt];unfold kg;grind
  rw[<- p];rfl
def jU (e:QE) (p:Nat):QE:=match fW e.T p with|none=>e|some c=>⟨e.D / (1-c),(nQ e.T p).map fun t=>(t.1,t.2 / (1-c))⟩
def Z6 {T:List Tm} {k:Nat} {c:Rat} (e:T.length<=2000) (g:T=pt T k++(k,c)::EP T k):Z5 (T.map kg) ((pt T k).length:Int) (IntKind.i64.wrap (((pt T k).length:Int)+1))=some ((nQ T k).map kg):=by
 have a:T.length=(pt T k).length+1+(EP T k).length:=by
  grind
 rw[a7 (by omega)];unfold Z5;have:(2000:Nat)<=maxLen:=by decide
 rw[if_pos ⟨by omega,by omega,by simp;omega,by simp;omega⟩,ake,ake];have b:T.map kg=(pt T k).map kg++kg (k,c)::(EP T k).map kg:=by grind
 rw[b,List.take_left' (by simp)];have d:((pt T k).map kg++kg (k,c)::(EP T k).map kg).drop ((pt T k).length+1)=(EP T k).map kg:=by
  rw[akX,akY (by simp)];simp
 rw[d];unfold nQ;grind
def aet {a b:Rat} (h:LF a+LF b<=eX) (c:b≠0):qH (cy a) (cy b)=some (cy (a / b),0):=ags h c
def ads {N K:Nat} {e:QE} (a:UN N K e.T) (G:LF e.D<=K) (H:N<=2000) (I:2*K+10<=eX) {p:Nat} (s:∀c,fW e.T p=some c->1-c≠0):eC (mkEq e) (p:Int)=some (mkEq (jU e p),()):=by
 have J:=a.len;unfold eC;rw[find_eq a.sorted (by omega),akO];simp only;have m:=L0;unfold jU;rcases zf (k:=p) a.sorted with⟨b,n⟩|⟨c,b,n⟩
 ·rw[b];rfl
 ·rw[b];simp only[Option.isSome_some,akE,ajT,if_false];have v:e.T[(pt e.T p).length]? = some (p,c):=by
   grind
  have w:(e.T.map kg)[(pt e.T p).length]? = some (kg (p,c)):=by grind
  have x:LF c<=K:=a.sz (p,c) (qC b);have o:=s c b;have y:(mkEq e).cz=e.T.map kg:=rfl;have z:(mkEq e).bI=cy e.D:=rfl;rw[adm,akO,y,aU w,akO];simp only[kg];have A:=Sv 1 c;rw[ael (by omega),akO];have B:iy (e.T.map kg) ((pt e.T p).length:Int) (IntKind.i64.wrap (((pt e.T p).length:Int)+1))=some ((nQ e.T p).map kg):=by unfold iy;exact Z6 (by omega) n
  rw[B,akO,z];simp only;rw[aet (by omega) o,akO];have C:=(a.rem p).len;have key:=fun D d=>qG (body:=fF (cy (1-c),0) ((nQ e.T p).map kg)) (nQ e.T p) (by omega) (fun i (l:List fQ)=>l.length=(nQ e.T p).length∧∀(j:Nat) t,(nQ e.T p)[j]? = some t->l[j]? = some (if j<i then kg (t.1,t.2 / (1-c)) else kg t)) (fun l=>l=((nQ e.T p).map fun t=>(t.1,t.2 / (1-c))).map kg) (s0:=(nQ e.T p).map kg)
   ⟨by simp,fun j t h=>by grind⟩ D d
  obtain⟨r,E,rfl⟩:=key (by
   rintro i t l h ⟨f,q⟩;have M:=aO h;have g:=q i t h;rw[if_neg (by omega)]at g;have F:=a.sz t (kf.1 (ajM h)).1;refine⟨l.set i (kg (t.1,t.2 / (1-c))),?_,by simpa using f,fun j u O =>?_⟩
   ·simp only[fF];rw[if_pos (by simp;omega),aU g,akO];simp only[kg];rw[aet (by omega) o,akO,a7 (by omega),ake]
   ·rw[List.getElem?_set];grind) (by
   rintro l ⟨f,q⟩;refine⟨l,?_,?_⟩
   ·simp only[fF];grind
   ·apply alk;grind)
  rw[E,akO];rfl
def kW (c:Rat):List Tm->List Tm->List Tm
 | [],T=>T
 | b::B,T=>kW c B (Ff T b.1 (c*b.2))
def C0 (e:QE) (p:Nat) (b:QE):QE:=match fW e.T p with|none=>e|some c=>⟨e.D+c*b.D,kW c b.T (nQ e.T p)⟩
def vP (c:Rat):∀(A B T:List Tm),kW c (A++B) T=kW c B (kW c A T)
 | [],_,_=>rfl
 | a::A,B,T=>by rw[ak6,kW,kW,vP c A B]
def Jc {T:List Tm} (h:j9 T) (k:Nat) (v:Rat):j9 (Ff T k v):=ab3 h k _
def Gf (c:Rat):∀(B:List Tm) {T:List Tm},j9 T->j9 (kW c B T)
 | [],_,h=>h
 | b::B,_,h=>Gf c B (Jc h _ _)
def Qd (c:Rat) (x:Nat->Rat):∀(B:List Tm) {T:List Tm},j9 T->eE (kW c B T) x=eE T x+c*eE B x
 | [],T,_=>by simp only[kW,eE];grind
 | b::B,T,h=>by
  rw[kW,Qd c x B (Jc h _ _),ado h,eE];grind
def Ae (c:Rat) {R:Nat->Prop} : ∀(B:List Tm) {T:List Tm},(∀t∈T,R t.1)->(∀b∈B,R b.1)->∀t∈kW c B T,R t.1
 | [],_,h,_=>h
 | b::B,T,h,hB=>Ae c B (T:=Ff T b.1 (c*b.2)) (fun t a=>by
   rcases MM.1 a with rfl|a
   ·simp_all
   ·exact h t (kf.1 a).1) fun u d=>hB u (akK _ d)
def Pz {c:Rat} (f:0<=c):∀(B:List Tm) {T:List Tm},(∀t∈T,0<=t.2)->(∀b∈B,0<=b.2)->∀t∈kW c B T,0<=t.2
 | [],_,h,_=>h
 | b::B,T,h,hB=>Pz f B (T:=Ff T b.1 (c*b.2)) (fun t d=>by
   rcases MM.1 d with rfl|d
   ·have i:=alU f (hB b (akJ ..));simp only;cases e:fW T b.1 with
    | none=>grind
    | some a=>have:=h _ (qC e);grind
   ·exact h t (kf.1 d).1) fun u g=>hB u (akK _ g)
def VA {K1 K2:Nat} {c:Rat} (n:LF c<=K1):∀(A B:List Tm) {T:List Tm},j9 (A++B)->(∀b∈A++B,LF b.2<=K2)->(∀t∈T,LF t.2<=K1)->∀t∈kW c A T,LF t.2<=2*K1+K2+1∧((∀a∈A,a.1≠t.1)->LF t.2<=K1)
 | [],_,_,_,_,h,t,d=>⟨by have:=h t d;omega,fun _=>h t d⟩
 | a::A,B,T,hs,g,h,t,d=>by
  obtain⟨e,z,f⟩:∃e z,a::A=e++[z]:=⟨(a::A).dropLast,(a::A).getLast (by simp),(List.dropLast_concat_getLast (by simp)).symm⟩;have j:e.length<(a::A).length:=by rw[f];simp
  rw[f,vP]at d;simp only[kW]at d;rw[f,aky]at hs g;have k:=VA n e ([z]++B) (T:=T) hs g h;have o:=g z (ajC _ (ajB _ (akJ ..)));rw[f];rcases MM.1 d with rfl|d
  ·refine⟨?_,fun hn=>absurd rfl (hn z (ajC _ (akJ ..)))⟩;simp only;have p:=su c z.2;cases i:fW (kW c e T) z.1 with
   | none=>grind
   | some y =>
    have l:=(k _ (qC i)).2 fun u m=>by
     grind
    have:=vA y (c*z.2);grind
  ·obtain⟨l,h2⟩:=k t (kf.1 d).1;exact⟨l,fun hn=>h2 fun u m=>hn u (ajB _ m)⟩
 termination_by A=>A.length
structure UM (N K:Nat) (e:QE):Prop where
 t:UN N K e.T
 d:LF e.D<=K
def UM.mono {N K a:Nat} {e:QE} (h:UM N K e) (b:K<=a):UM N a e:=⟨h.t.mono b,ajq h.d b⟩
def XI (c:Rat) {B:List Tm} {i:Nat} {b:Tm} (h:B[i]? = some b) (T:List Tm):kW c (B.take (i+1)) T=Ff (kW c (B.take i) T) b.1 (c*b.2):=by
 obtain⟨a,d⟩:=ajO.1 h;rw[alK a,vP,d];rfl
def Px {N a d:Nat} {c:Rat} (f:LF c<=a) {B T:List Tm} (hB:UN N d B) (e:UN N a T) (i:Nat):UN N (2*a+d+1) (kW c (B.take i) T) where
 sorted:=Gf c _ e.sorted
 lt:=Ae c (R:=fun p=>p<N) _ e.lt fun b g=>hB.lt b (aj0 g)
 sz t h:=(VA (K1:=a) (K2:=d) f (B.take i) (B.drop i) (by rw[ak2];exact hB.sorted) (by rw[ak2];exact hB.sz) e.sz t h).1
def adI {N d g:Nat} {e b:QE} (a:UM N d e) (h:UM N g b) (p:Nat):UM N (2*d+g+1) (C0 e p b):=by
 unfold C0;cases f:fW e.T p with
 | none=>exact a.mono (by omega)
 | some c =>
  have j:LF c<=d:=a.t.sz _ (qC f);have i:=Px j h.t (a.t.rem p) b.T.length;rw[alj]at i;refine⟨i,?_⟩;have k:=vA e.D (c*b.D);have l:=su c b.D;have:=a.d;have:=h.d;simp only;omega
end Go.Proofs.YtobnihfgnbnncaaGreat.P
