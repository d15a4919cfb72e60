import Derived.Test.YtekhokjkphgphaaGreatLa
set_option linter.unusedSimpArgs false
set_option linter.unusedVariables false
set_option linter.defProp false
noncomputable section
open Go.Proofs.Tryz
namespace Go.Proofs.YtekhokjkphgphaaGreat.Am
open Go.RowKit
section
variable {P:Program} {T:Nat->Option Ty} {N:Nat} {M:Nat->Prop} {L:jM} {w0:World} {blk:Nat->Option (Nat×Nat)} {V:Nat->Nat->Prop} {t:Nat->D} {h:Nat->Option Row} {a:Act} {w:World} {e:Nat} {o:Oper} {Γ:Env}
def Y9 (p:iI P T) {g:Nat} {φ:Ty} (q:T g=some φ) (r:O9 φ.ds=true) {x y:D} {u v:Value} {b:Bool} {o:Nat->Prop} (h:RP w o x u) (l:RP w o y v) (a:Z0 x y=some b) (n:Nat) :
  (∃d,P.underlying g=some d)∧((∃k,φ.ds=.int k∧∃m i j,x=.int m i∧y=.int m j)∨(φ.ds=.bool∧∃i j,x=.bool i∧y=.bool j)∨(φ.ds=.str∧∃i j,x=.str i∧y=.str j)->(Op.equalIn (n+1) g u v).run P w=.ok b w):=by
 obtain⟨d,f,c⟩:=under p q;refine⟨⟨d,f⟩,?_⟩;rintro (⟨k,e,m,i,j,rfl,rfl⟩|⟨e,i,j,rfl,rfl⟩|⟨e,i,j,rfl,rfl⟩)
 ·rw[e]at c;have:=zN c;subst this;cases h;cases l;simp only[Z0,if_true,ae5]at a;subst a;simp[Op.equalIn,run_underlying f]
 ·rw[e]at c;have:=xx c;subst this;cases h;cases l;simp only[Z0,ae5]at a;subst a;simp[Op.equalIn,run_underlying f]
 ·rw[e]at c;have:=tj c;subst this;cases h;cases l;simp only[Z0,ae5]at a;subst a;simp[Op.equalIn,run_underlying f]
def Ui {x y:D} {b:Bool} {s:Ds} (a:Z0 x y=some b) (c:kindOk s x=true) :
  (∃k,s=.int k∧∃d i j,x=.int d i∧y=.int d j)∨(s=.bool∧∃i j,x=.bool i∧y=.bool j)∨(s=.str∧∃i j,x=.str i∧y=.str j):=by
 cases x<;>cases y<;>simp only[Z0]at a<;>try (cases a;done)
 ·rename_i k i d j;split at a
  ·rename_i e;subst e;cases s<;>simp[kindOk]at c;simp_all
  ·cases a
 ·cases s<;>simp[kindOk]at c;simp_all
 ·cases s<;>simp[kindOk]at c;simp_all
def Kc (j:Inv N M L w0 blk V t h a w) {x:Operand} {i:Nat} {c:List D} {d:D} (m:o.op=.extract x i) (n:ev t x=.tup c) (k:c[i]? = some d):dZ P o a w (bn N M L w0 V t h a e o.dst ⟨d,[]⟩):=by
 have l:=j.ev x;rw[n]at l;have g:RP w (Own M h blk) (.tup c) (a.eval x):=l;generalize p:a.eval x=u at *;cases g with
 | tup c f h1 h2 =>
  have q:=(afp.1 k).1;refine aN (v:=f.getD i undef) (w':=w) ?_ (bn.dO j (bQ (h2 i d k)));have b:f[i]? = some (f.getD i undef):=by simp_all
  generalize f.getD i undef=v at *;simp[execOp,m,Instr.extract,p,b]
def Kb (i:iI P T) (j:Inv N M L w0 blk V t h a w) {x:Operand} {src f:Nat} {τ σ:Ty} {k b:IntKind} {n:Int} (p:o.op=.convert src f x) (q:T f=some τ) (r:T src=some σ) (g:τ.ds=.int b) (s:ev t x=.int k n) :
  dZ P o a w (bn N M L w0 V t h a e o.dst ⟨.int b (b.wrap n),[]⟩):=by
 have l:=j.ev x;rw[s]at l;have u:=mD l;obtain⟨d,y,m⟩:=under i q;obtain⟨d2,c,_⟩:=under i r;rw[g]at m;have:=zN m;subst this;refine aN (v := .int b (b.wrap n)) (w':=w) ?_ (bn.dO j (bQ (.int _ _)));have:=run_convert_int (P:=P) (w:=w) src f k n (by simp[c]);simp[execOp,p,u,convert,run_underlying y,run_underlying c,Conv.intToInt]
def Uf (g:Inv N M L w0 blk V t h a w) {x:Operand} {f:UnOp} {m:Nat} {d:D} (j:o.op=.unOp f m x) (c:Vb f (ev t x)=some d):dZ P o a w (bn N M L w0 V t h a e o.dst ⟨d,[]⟩):=by
 have l:=g.ev x;generalize ev t x=q at *;cases q with
 | int k n =>
  have i:=mD l;cases f<;>simp only[Vb,ae5]at c<;>try (cases c;done)
  all_goals
   subst c;refine aN (w':=w) ?_ (bn.dO g (bQ (.int _ _)));simp[execOp,j,i,Op.unary,Op.intArith,Op.intBits,D0]
 | bool b =>
  have i:=xn l;cases f<;>simp only[Vb,ae5]at c<;>try (cases c;done)
  all_goals
   subst c;refine aN (w':=w) ?_ (bn.dO g (bQ (.bool _)));simp[execOp,j,i,Op.unary]
 | _=>simp[Vb]at c
def xB:∀ {b:List D},qZ b=true->∀x∈b,iR x=true
 | [],_,x,a=>by simp at a
 | y::c,h,x,a=>by
  simp only[qZ,afx]at h;rcases ae3.1 a with rfl|a
  ·exact h.1
  ·exact xB h.2 x a
def RP.flat {g h:Nat->Prop} {d:D} {u:Value} (i:RP w g d u) (a:iR d=true):RP w h d u:=by
 induction i with
 | int k n=>exact .int k n
 | bool b=>exact .bool b
 | str s=>exact .str s
 | sl A c nl tight n xs us h1 h2 h3 h4 h5 h6 h7 h8 ih=>simp[iR]at a
 | agg xs us h1 h2 h3 ih =>
  simp only[iR]at a;exact .agg xs us h1 (fun j x e=>ih j x e (xB a x (afo e))) h3
 | tup xs us h1 h2 ih =>
  simp only[iR]at a;exact .tup xs us h1 (fun j x e=>ih j x e (xB a x (afo e)))
 | ip xs ad us h6 h7 h8 ih=>simp[iR]at a
 | fn f=>exact .fn f
 | ali x v s o n u h1=>simp[iR]at a
 | mpc ks vs mb us h1 h2 h3 h4 ih=>simp[iR]at a
 | alm x v u h1=>simp[iR]at a
 | clo f l xs us h1 h2 ih=>simp[iR]at a
def zj {h:Nat->Option Row} {blk:Nat->Option (Nat×Nat)} {a:Option Nat} {b:Nat} (e:Own M (forget h a) blk b):Own M h blk b:=by
 rcases e with e|⟨x,r,g,d,f,i,j⟩
 ·exact .inl e
 ·refine .inr ⟨x,r,g,?_,f,i,j⟩;cases a with
  | none=>exact d
  | some y =>
   simp only[forget]at d
   by_cases c:x=y
   ·subst c;simp[bY]at d
   ·rwa [aC _ _ c]at d
def Inv.fresh (z:Inv N M L w0 blk V t h a w) {w':World} {v:Value} {d ty s n:Nat} {cells:List D} {old dst:Option Nat} (B:dst=some d) (C:js N V d e)
  (hb:ez (fun b=>∃y g,old=some y∧blk y=some g∧b=g.1) w w') (i:∀y,old=some y->∃r,h y=some r∧r.fz=false)
  (G:(∃(g:Nat×Nat) (c:Nat) (l:Array Value),v=.slice (some ⟨g.1,g.2,none⟩) n c∧(w.heap.size<=g.1∨∃y m,old=some y∧blk y=some m∧g.1=m.1)∧w'.heap[g.1]? = some (.cells l ty (0,0))∧n<=c∧c<=maxLen∧c*s+g.2=l.size∧g.2+cells.length<=l.size ∧
   ∀(j:Nat) d,cells[j]? = some d->bz d=true∧RP w' (fun b=>Own M (forget h old) blk b∨b=g.1) d (l.getD (g.2+j) undef))∨(n=0∧cells=[]∧∃A,v=.slice A 0 0)) :
  ∃f,Inv N M L w0 f (fun x k=>V x k∨(dst=some x∧k=e)) t (bY (forget h old) d (some ⟨e,ty,cells,false,true,false⟩)) a w' ∧
   RT w' (Own M (bY (forget h old) d (some ⟨e,ty,cells,false,true,false⟩)) f) (bY (forget h old) d (some ⟨e,ty,cells,false,true,false⟩)) f (fun x k=>V x k∨(dst=some x∧k=e)) (.buf d e s 0 n) v:=by
 have E:∀ {f:Nat->Option (Nat×Nat)},Inv N M L w0 f (fun x k=>V x k∨(x=d∧k=e)) t (bY (forget h old) d (some ⟨e,ty,cells,false,true,false⟩)) a w'->Inv N M L w0 f (fun x k=>V x k∨(dst=some x∧k=e)) t (bY (forget h old) d (some ⟨e,ty,cells,false,true,false⟩)) a w':=fun hJ=>hJ.weaken fun x k Q=>by
  grind
 rcases G with⟨g,c,l,rfl,H,F,I,J,K,O,P⟩|⟨rfl,rfl,A,rfl⟩
 ·refine⟨bY blk d (some g),E (z.P8 (old:=old) hb.os hb.tape hb.output hb.size (fun k o hn=>hb.block k o (fun⟨y,m,p,q,u⟩=>hn y m p q u)) i rfl C ⟨H,l,F,O,P⟩),?_⟩;exact ue (.inr ⟨B,rfl⟩) (aA _ _ _) F I J K
 ·refine⟨bY blk d none,E (z.P8 (go:=none) (old:=old) hb.os hb.tape hb.output hb.size (fun k o hn=>hb.block k o (fun⟨y,m,p,q,u⟩=>hn y m p q u)) i rfl C rfl),?_⟩;exact⟨.inr ⟨B,rfl⟩,fun _ _ _ =>.inr ⟨aA _ _ _,rfl,A,rfl⟩⟩
def RP.less {M1 a:Nat->Prop} {d:D} {u:Value} (c:RP w M1 d u) (e:∀b,a b->M1 b):RP w a d u:=c.keep fun _ f h2=>⟨f,fun g=>h2 (e _ g),rfl⟩
def Inv.DW (k:Inv N M L w0 blk V t h a w) {f c:List D} {l:List Nat} {e:Array Value} {m:Nat->Prop} (g:Am.bX h f=some (c,l)) (n:pT M h blk l m) (i:e.size=f.length)
  (r:∀(j:Nat) d,f[j]? = some d->RT w (Own M h blk) h blk V d (e.getD j undef)):zB w m c e:=by
 obtain⟨o,s⟩:=k.bX (us:=e.toList) g n (by simpa using i) (fun j d p=>by simp_all);refine⟨by simpa using o,fun j d p =>?_,fun b q=>(k.tab b q).less n.le⟩;simp_all
def Mg (hΓ:bG P Γ) (hI:Inv N M L w0 blk V t h a w) {g:Nat} {o:Option Nat} {E:cd} {K:List D} {u:Array Value} (l:vH Γ h e o g K=some E) (hV:∀d,o=some d->js N V d e) (p:u.size=K.length)
  (I:∀(j:Nat) d,K[j]? = some d->RT w (Own M h blk) h blk V d (u.getD j undef)):eW P g∧Calls P g u w fun F G=>∃v,F=.returned v∧bn N M L w0 V t h a e o E v G:=by
 unfold vH at l;split at l
 ·rename_i H C q;split at l
  ·rename_i r O Q;simp only[ae5]at l;subst l;obtain⟨i,z⟩:=hΓ.calls g none H _ _ Q;refine⟨z,?_⟩
   by_cases f:iR r=true
   ·refine (i w _ u (fun b k=>hI.zk k.1) (hI.DW q (hI.IV C) p I)).mono fun F G A =>?_;obtain⟨v,B,k,m⟩:=A;refine⟨v,B,?_⟩;rw[if_pos f];exact bn.dO (hI.later k) (bQ (RP.flat m f))
   ·have hIf:=hI.freeze C;refine (i w _ u (fun b k=>hIf.zk k) (hI.DW q (hI.fF C) p I)).mono fun F G A =>?_;obtain⟨v,B,k,m⟩:=A;refine⟨v,B,?_⟩;rw[if_neg f];exact⟨blk,(hIf.later k).weaken fun _ _ h =>.inl h,bQ m⟩
  ·rename_i ty s n cells O Q;split at l
   ·rename_i d;split at l
    ·rename_i aa;simp only[ae5]at l;subst l;obtain⟨i,z⟩:=hΓ.calls g none H _ _ Q;refine⟨z,?_⟩
     by_cases f:qZ cells=true
     ·refine (i w _ u (fun b k=>hI.zk k.1) (hI.DW q (hI.IV C) p I)).mono fun F G A =>?_;obtain⟨v,B,k,m⟩:=A;refine⟨v,B,?_⟩;rw[if_pos f];exact hI.fresh (old:=none) rfl (hV d rfl) (ez.Aj k) (fun y R=>by cases R) (by
       rcases m with⟨g,c,S,T,U,W,X,Y,Z,h7,J⟩|m
       ·exact .inl ⟨g,c,S,T,.inl (U.resolve_right id),W,X,Y,Z,h7,fun j x hj=>⟨(J j x hj).1,(J j x hj).2.flat (xB f x (afo hj))⟩⟩
       ·exact .inr m)
     ·have hIf:=hI.freeze C;refine (i w _ u (fun b k=>hIf.zk k) (hI.DW q (hI.fF C) p I)).mono fun F G A =>?_;obtain⟨v,B,k,m⟩:=A;refine⟨v,B,?_⟩;rw[if_neg f];have:=hIf.fresh (e:=e) (ty:=ty) (s:=s) (cells:=cells) (n:=n) (v:=v) (old:=none) (dst:=some d) rfl (hV d rfl) (ez.Aj k) (fun y R=>by cases R) (by
       rcases m with⟨g,c,S,T,U,W,X,Y,Z,h7,J⟩|m
       ·exact .inl ⟨g,c,S,T,.inl (U.resolve_right id),W,X,Y,Z,h7,J⟩
       ·exact .inr m)
      unfold bn;rw[gH];exact this
    ·cases l
   ·cases l
  ·cases l
 ·cases l
def Inv.aaf (f:Inv N M L w0 blk V t h a w) {x v:Nat} {r:Row} (d:live h x v=some r) {u:Value} : (∀s o n,RT w (Own M h blk) h blk V (.buf x v s o n) u->BW w (blk x) (.buf 0 0 s o n) u)∧(∀o,RT w (Own M h blk) h blk V (.ptr x v o) u->BW w (blk x) (.ptr 0 0 o) u):=by
 obtain⟨b,c⟩:=cw d;exact⟨fun s o n hr=>⟨trivial,fun e _ _=>hr.2 r b c⟩,fun o hr=>⟨trivial,fun e _ _=>hr.2 r b c⟩⟩
def Inv.W6 (e:Inv N M L w0 blk V t h a w) {x v:Nat} {r:Row} (b:zd h x v=some r) {u:Value} (hr:RT w (Own M h blk) h blk V (.mp x v) u):BW w (blk x) (.mp 0 0) u:=by
 obtain⟨c,d,_⟩:=Cu b;exact⟨trivial,fun f _ _=>hr.2 r c d⟩
def Q1 {d0:D} {x v:Nat} {r:Row} (a:Ae d0 h x v=some r):(h x=some r∧r.v=v)∧uK r=true:=by
 unfold Ae at a;split at a
 ·obtain⟨b,c,_,d⟩:=Cu a;simp_all
 ·exact⟨cw a,Fk (ia a)⟩
def D6 (hΓ : bG P Γ) (hI : Inv N M L w0 blk V t h a w) {g x v : Nat} {d0 : D} {K : Option Nat} {E : cd} {ds : List D} {u0 : Value} {Y : Array Value} (i : qM Γ h e K g x v d0 ds = some E) (hV : ∀ d, K = some d -> js N V d e) (ai : V x v)
    (h0 : ∀ r, Ae d0 h x v = some r -> BW w (blk x) d0 u0) (aj : Y.size = ds.length) (hr : ∀ (j : Nat) d, ds[j]? = some d -> RT w (Own M h blk) h blk V d (Y.getD j undef)) :
    eW P g ∧ Calls P g (#[u0] ++ Y) w fun R B => ∃ v, R = .returned v ∧ bn N M L w0 V t h a e K E v B := by
  unfold qM at i;split at i
  · rename_i r hl
    obtain ⟨⟨hx, hv⟩, ak⟩ := Q1 hl;split at i
    · rename_i hz
      split at i
      · rename_i S A al
        split at i
        · rename_i an
          have hIf := hI.freeze A;have I : aW h (jw h A) x = some r := by rw [AX an]; exact hx
          have ao : ∀ b, vA (blk x) b -> Own M (aW h (jw h A)) blk b := fun b ⟨p, l, q⟩ => .inr ⟨x, r, p, I, hz, l, q.symm⟩;have O : ∀ b, ((Own M (aW h (jw h A)) blk b ∧ ¬ vA (blk x) b) ∨ vA (blk x) b) -> Own M (aW h (jw h A)) blk b := fun b hb => hb.elim (·.1) (ao b);have C := hI.DW al (hI.fF A) aj hr;have Q : zB w (fun b => (Own M (aW h (jw h A)) blk b ∧ ¬ vA (blk x) b) ∨ vA (blk x) b) S Y := ⟨C.1, fun j d hj => (C.2 j d hj).less O, fun b hb => (C.tab b hb).less O⟩;have aa : Sg w (fun b => (Own M (aW h (jw h A)) blk b ∧ ¬ vA (blk x) b) ∨ vA (blk x) b) (blk x) { r with v := 0 } := by
            have := (hIf.rows x r I).2;cases G : blk x with
            | none => rw [G] at this; exact this
            | some p =>
              rw [G] at this O;exact dV.keep (r' := { r with v := 0 }) this.2 rfl rfl rfl rfl (fun b h1 h2 => ⟨h1, fun hb => h2 (O b hb), rfl⟩)
          have ab : ∀ (r2 : Option Row) b, Own M (bY (aW h (jw h A)) x r2) blk b -> (Own M (aW h (jw h A)) blk b ∧ ¬ vA (blk x) b) ∨ vA (blk x) b := by
            intro r2 b hb
            by_cases hi : vA (blk x) b
            · exact .inr hi
            · refine .inl ⟨?_, hi⟩
              rcases hb with hb | ⟨y, s, p, hy, aq, l, q⟩
              · exact .inl hb
              · by_cases ad : y = x
                · subst ad; exact absurd ⟨p, l, q.symm⟩ hi
                · rw [aC _ _ ad] at hy
                  exact .inr ⟨y, s, p, hy, aq, l, q⟩
          have key : ∀ {rk : RK} {T : Option Row}, Γ.sem g (some (d0, { r with v := 0 })) S = some (rk, T) -> eW P g ∧ Calls P g (#[u0] ++ Y) w fun R B => ∃ u, R = .returned u ∧ ez (vA (blk x)) w B ∧
              (∀ J, T = some J -> Inv N M L w0 blk V t (bY (aW h (jw h A)) x (some { J with v := v })) a B ∧ J.ty = r.ty) ∧
              (match rk with
               | .same s o n => BW B (blk x) (.buf 0 0 s o n) u
               | .clean d => RP B (fun b => (Own M (aW h (jw h A)) blk b ∧ ¬ vA (blk x) b) ∨ vA (blk x) b) d u
               | .fresh Z s n cells => vE w B (fun b => Own M (aW h (jw h A)) blk b ∧ ¬ vA (blk x) b) (vA (blk x)) u (.fresh Z s n cells)) := by
            intro rk T U;obtain ⟨f, F⟩ := hΓ.calls g _ S _ _ U;refine ⟨F, ?_⟩;refine (f w (fun b => Own M (aW h (jw h A)) blk b ∧ ¬ vA (blk x) b) (blk x) u0 Y (fun b hb => hIf.zk hb.1) (fun b hb hb' => hb'.2 hb) hz (by simpa [uK] using ak) aa (h0 r hl) Q).mono fun R B G => ?_;obtain ⟨u, q, hb, ho, hk⟩ := G;refine ⟨u, q, hb, fun J ar => ?_, hk⟩;subst ar;obtain ⟨o1, o2, ⟨aw, au⟩, o3, o4⟩ := ho;refine ⟨?_, o1⟩;have := hIf.kg (r0 := { J with v := v }) (w' := B) I hz hv.symm hb.os hb.tape hb.output hb.size (fun b av hb2 => hb.block b av (fun ⟨p, l, q⟩ => hb2 p l q)) (by
              cases G : blk x with
              | none => rw [G] at o4; exact o4
              | some p =>
                rw [G] at o3 o4;refine ⟨o3 p rfl, dV.keep (r' := { J with v := v }) o4 rfl rfl rfl rfl (fun b h1 h2 => ⟨h1, fun hb => h2 ?_, rfl⟩)⟩;simp_all) (fun h => by simp_all) (fun hm p _ j x' s n hj => by
                  obtain ⟨ks, ax, hc⟩ := Ag au hm;grind)
            exact this
          split at i
          · rename_i c J U
            simp only [ae5] at i;subst i;obtain ⟨F, f⟩ := key U;refine ⟨F, f.mono fun R B G => ?_⟩;obtain ⟨u, q, hb, ho, hk⟩ := G;refine ⟨u, q, blk, ?_, ?_⟩
            · rw [gH]; exact (ho J rfl).1.weaken fun _ _ h => .inl h
            · rw [gH]; exact bQ (RP.less hk (ab _))
          · rename_i s o' n J U
            simp only [ae5] at i;subst i;obtain ⟨F, f⟩ := key U;refine ⟨F, f.mono fun R B G => ?_⟩;obtain ⟨u, q, hb, ho, hk⟩ := G;refine ⟨u, q, blk, ?_, ?_⟩
            · rw [gH]; exact (ho J rfl).1.weaken fun _ _ h => .inl h
            · rw [gH]
              exact ⟨.inl ai, fun r' _ _ => hk.2 ⟨0, 0, [], false, false, false⟩ rfl rfl⟩
          · rename_i Z s n cells U
            split at i
            · rename_i d
              split at i
              · rename_i hd
                simp only [ae5] at i;subst i;obtain ⟨F, f⟩ := key U;refine ⟨F, f.mono fun R B G => ?_⟩;obtain ⟨u, q, hb, _, hk⟩ := G;refine ⟨u, q, ?_⟩;have := hIf.fresh (e := e) (ty := Z) (s := s) (cells := cells) (n := n) (v := u) (old := some x) (dst := some d) rfl (hV d rfl) (w' := B) ⟨hb.os, hb.tape, hb.output, hb.size, fun k hk hn => hb.block k hk (fun ⟨p, l, q⟩ => hn ⟨x, p, rfl, l, q⟩)⟩ (fun y hy => by simp_all) (by
                  rcases hk with ⟨g, c, cs, h1, h2, h3, h4, h5, h6, h7, h8⟩ | hv
                  · refine .inl ⟨g, c, cs, h1, h2.imp id (fun ⟨p, l, q⟩ => ⟨x, p, rfl, l, q⟩), h3, h4, h5, h6, h7, fun j y hj => ⟨(h8 j y hj).1, ?_⟩⟩
                    refine (h8 j y hj).2.less fun b hb => ?_;rcases hb with hb | hb
                    · refine .inl ⟨?_, ?_⟩
                      · rcases hb with hb | ⟨z, s', p, m, ae, W, X⟩
                        · exact .inl hb
                        · simp only [forget] at m
                          by_cases H : z = x
                          · subst H; simp [bY] at m
                          · rw [aC _ _ H] at m
                            exact .inr ⟨z, s', p, m, ae, W, X⟩
                      · rintro ⟨g1, ag, ah⟩
                        rcases hb with hb | ⟨z, s', p, m, ae, W, X⟩
                        · rw [ah] at hb
                          exact hIf.notM I ag hb
                        · simp only [forget] at m
                          by_cases H : z = x
                          · subst H; simp [bY] at m
                          · rw [aC _ _ H] at m
                            exact H (hIf.inj z x s' r p g1 m I W ag (X.trans ah))
                    · exact .inr hb
                  · exact .inr hv)
                unfold bn;have e1 : jw h A ++ [(x, none), (d, some ⟨e, Z, cells, false, true, false⟩)] = (jw h A ++ [(x, none)]) ++ [(d, some ⟨e, Z, cells, false, true, false⟩)] := by simp
                rw [e1, gH, gH];exact this
              · cases i
            · cases i
          · cases i
        · cases i
      · cases i
    · cases i
  · cases i
inductive nM (Q:D->Value->Prop):List D->List Value->Prop
 | nil:nM Q [] []
 | cons {d:D} {u:Value} {ds:List D} {us:List Value} (h:Q d u) (hs:nM Q ds us):nM Q (d::ds) (u::us)
def nM.length {Q:D->Value->Prop} {a:List D} {b:List Value} (h:nM Q a b):b.length=a.length:=by
 induction h with
 | nil=>rfl
 | cons h hs c=>simp[c]
def nM.of {Q:D->Value->Prop} : ∀ {a:List D} {b:List Value},b.length=a.length->(∀(j:Nat) d,a[j]? = some d->Q d (b.getD j undef))->nM Q a b
 | [],[],_,_ =>.nil
 | [],_::_,h,_=>by simp at h
 | _::_,[],h,_=>by simp at h
 | d::a,u::b,h,c =>.cons (by simpa using c 0 d rfl) (nM.of (by simpa using h) fun j x e=>by simpa using c (j+1) x (by simpa using e))
def nM.at_ {Q:D->Value->Prop} {a:List D} {b:List Value} (h:nM Q a b):∀(j:Nat) d,a[j]? = some d->∃u,b[j]? = some u∧Q d u:=by
 induction h with
 | nil=>simp_all
 | cons h hs c =>
  grind
def nM.append {Q:D->Value->Prop} {c a:List D} {d b:List Value} (h:nM Q c d) (h':nM Q a b):nM Q (c++a) (d++b):=by
 induction h with
 | nil=>exact h'
 | cons h hs e=>exact .cons h e
def nM.take {Q:D->Value->Prop} {a:List D} {b:List Value} (h:nM Q a b):∀n:Nat,nM Q (a.take n) (b.take n):=by
 induction h with
 | nil=>intro n;simp;exact .nil
 | cons h hs c =>
  intro n;cases n with
  | zero=>exact .nil
  | succ n=>exact .cons h (c n)
def nM.drop {Q:D->Value->Prop} {a:List D} {b:List Value} (h:nM Q a b):∀n:Nat,nM Q (a.drop n) (b.drop n):=by
 induction h with
 | nil=>intro n;simp;exact .nil
 | cons h hs c =>
  intro n;cases n with
  | zero=>exact .cons h hs
  | succ n=>exact c n
def nM.mono {Q Q':D->Value->Prop} {a:List D} {b:List Value} (h:nM Q a b) (c:∀d u,Q d u->Q' d u):nM Q' a b:=by
 induction h with
 | nil=>exact .nil
 | cons h hs e=>exact .cons (c _ _ h) e
def Inv.acX (m:Inv N M L w0 blk V t h a w) {x v s n:Nat} {r:Row} {u:Value} (o:live h x v=some r) (C:RT w (Own M h blk) h blk V (.buf x v s 0 n) u) :
  ∃p,VD w r.ty s (blk x) u n p∧nM (fun d u=>bz d=true∧RP w (Own M h blk) d u) r.cells p:=by
 obtain⟨f,D⟩:=cw o;rcases C.2 r f D with⟨g,J,c,E,K,b,rfl,F,G,H,q⟩|⟨b,rfl,A,rfl⟩
 ·obtain⟨arr,z,O,P⟩:=m.Ff f b (ia o);obtain⟨B,Q⟩:=F (.inr rfl);have R:E=arr.size:=by
   simp only[World.shape?,z,ae5,Prod.mk.injEq]at q;exact q.2.symm
  rw[afw]at B;subst B;refine⟨(List.range r.cells.length).map fun j=>arr.getD (g.2+j) undef,.inl ⟨g,c,arr,b,rfl,z,by omega,G,H,fun j y k =>?_⟩,nM.of (by simp) fun j d k =>?_⟩
  ·rw[aeU,aeV]at k;obtain⟨i,l,rfl⟩:=k;have e:=(afp.1 l).1;rw[List.getElem?_range (by simpa using e)]at l;cases l;simp only[afr]at e;rw[ae1,af7 (show g.2+j<arr.size by omega)];rfl
  grind
 ·have:=(m.rows x r f).2;rw[b]at this;have I:r.cells=[]:=this;exact⟨[],.inr ⟨b,rfl,rfl,A,rfl⟩,by rw[I];exact .nil⟩
def V4 {g:Nat} {p:Nat×Nat×Nat} (f:abT P g p) (hI:Inv N M L w0 blk V t h a w) {A:Option Nat} {E:cd} {Q:List D} {H:Array Value} (B:zI h e A p Q=some E) (hV:∀d,A=some d->js N V d e) (R:H.size=Q.length)
  (hr:∀(j:Nat) d,Q[j]? = some d->RT w (Own M h blk) h blk V d (H.getD j undef)):eW P g∧Calls P g H w fun e' w'=>∃v,e'=.returned v∧bn N M L w0 V t h a e A E v w':=by
 refine⟨f.callable,?_⟩;unfold zI at B;split at B<;>try (cases B;done)
 rename_i x v s o n i y v' s' o' m;split at B<;>try (cases B;done)
 rename_i r S d hl T;split at B<;>try (cases B;done)
 rename_i hc;obtain⟨hz,az,aw,ab,hxy,rfl,rfl,ad,U,rfl,rfl,W,I,aA,aB,ae,X⟩:=hc;simp only[ae5]at B;subst B;obtain⟨hx,hv⟩:=cw hl;obtain⟨hy,aD⟩:=cw T;have ag:H = #[H.getD 0 undef,H.getD 1 undef,H.getD 2 undef]:=by
  simp only[List.length_cons,List.length_nil]at R;apply Array.ext
  ·simp[R]
  ·intro j h1 h2;have:j=0∨j=1∨j=2:=by omega
   rcases this with rfl|rfl|rfl<;>simp[af7 h1]
 have h0:=hr 0 _ rfl;have h1:=mD (hr 1 _ rfl);have h2:=hr 2 _ rfl;obtain⟨Y,a1,a2⟩:=hI.acX hl h0;obtain⟨J,b1,b2⟩:=hI.acX T h2;rw[ad]at a1;rw[U]at b1;have F:∀ {Q:List D} {us:List Value},nM (fun d u=>bz d=true∧RP w (Own M h blk) d u) Q us->∀u∈us,u.oneCell'=true:=by
  intro Q us hR
  induction hR with
  | nil=>grind
  | cons h hs ih =>
   intro u hu;rcases ae3.1 hu with rfl|hu
   ·exact h.2.sj h.1
   ·exact ih u hu
 rw[ag,h1,show i=((i.toNat:Nat):Int) by omega];refine (f.calls w (blk x) (blk y) _ _ i.toNat n m Y J a1 b1 (fun g g' hg ah K=>hxy (hI.inj x y r S g g' hx hy hg ah K)) (by rw[a2.length,W]) (by rw[b2.length,I]) (F a2) (F b2) (by omega) ae X).mono fun e' w' hg =>?_;obtain⟨u,K,hb,g,c,ai,rfl,g1,g2,g3,g4,g5,g6⟩:=hg;refine⟨_,K,?_⟩;have aj:=hI.drop y;have aE:bY h y none x=some r:=by rw[aC _ _ hxy];exact hx
 have G:nM (fun d u=>bz d=true∧RP w (Own M h blk) d u) (r.cells.take (i.toNat*p.2.1)++(S.cells++r.cells.drop (i.toNat*p.2.1))) (Y.take (i.toNat*p.2.1)++(J++Y.drop (i.toNat*p.2.1))):=(a2.take _).append (b2.append (a2.drop _));have ax:∀b,Own M (forget (bY h y none) (some x)) blk b->Own M h blk b:=by
  intro b hb;rcases zj hb with hb|⟨z,q,O,C,ak,al,an⟩
  ·exact .inl hb
  ·by_cases Z:z=y
   ·subst Z;simp[bY]at C
   ·rw[aC _ _ Z]at C;exact .inr ⟨z,q,O,C,ak,al,an⟩
 have ao:∀b,vA (blk x) b->Own M h blk b:=fun b ⟨O,l,aq⟩ =>.inr ⟨x,r,O,hx,hz,l,aq.symm⟩;have aa:=aj.fresh (e:=e) (ty:=p.1) (s:=p.2.1) (cells:=r.cells.take (i.toNat*p.2.1)++(S.cells++r.cells.drop (i.toNat*p.2.1))) (n:=n+m) (v := .slice (some ⟨g.1,g.2,none⟩) (n+m) c) (old:=some x) (dst:=some d) rfl (hV d rfl) (w':=w')
  ⟨hb.os,hb.tape,hb.output,hb.size,fun k hk hn=>hb.block k hk (fun⟨O,l,K⟩=>hn ⟨x,O,rfl,l,K⟩)⟩ (fun z C=>by grind)
  (.inl ⟨g,c,ai,rfl,g1.imp id (fun⟨O,l,K⟩=>⟨x,O,rfl,l,K⟩),g2,g3,g4,g5,?_,fun j d' hj =>?_⟩)
 ·unfold bn;exact aa
 ·have ay:=f.pos;have e1:(Y.take (i.toNat*p.2.1)++(J++Y.drop (i.toNat*p.2.1))).length=(r.cells.take (i.toNat*p.2.1)++(S.cells++r.cells.drop (i.toNat*p.2.1))).length:=G.length;have e2:(r.cells.take (i.toNat*p.2.1)++(S.cells++r.cells.drop (i.toNat*p.2.1))).length=(n+m)*p.2.1:=by
   grind
  rw[e2];have:=afF p.2.1 g3;omega
 ·obtain⟨u,hu,ar,au⟩:=G.at_ j d' hj;have av:=g6 j u hu;refine⟨ar,?_⟩;rw[ae1,av];refine au.keep fun b q1 q2=>⟨ae0 q1 hb.size,?_,hb.block b q1 (fun hn=>q2 (ao b hn))⟩;grind
def V1 {g:Nat} {p:Grow} (Q:ZH P g p) (R:Inv N M L w0 blk V t h a w) (hP:∀x v,V x v->x<N∨2*PK<=x) {ar:Option Nat} {E:cd} {ds:List D} {vs:Array Value} (B:yi h p ds=some E) (au:vs.size=ds.length)
  (hr:∀(j:Nat) d,ds[j]? = some d->RT w (Own M h blk) h blk V d (vs.getD j undef)):eW P g∧Calls P g vs w fun e' S=>∃v,e'=.returned v∧bn N M L w0 V t h a e ar E v S:=by
 refine⟨Q.callable,?_⟩;unfold yi at B;split at B<;>try (cases B;done)
 rename_i y v k m;split at B<;>try (cases B;done)
 rename_i i l s n r av hk;split at B<;>try (cases B;done)
 rename_i T;obtain⟨rfl,aa,ab,ad,aw,aP,aQ,rfl,ax,I,ae⟩:=T;split at B<;>try (cases B;done)
 rename_i cs J;simp only[ae5]at B;subst B;obtain⟨hy,hv,ag,ay⟩:=ze av;obtain⟨f1,f2,f3,f4⟩:=Q.flat _ _ _ J;have h0:=hr 0 _ rfl;obtain⟨f,q,aR⟩:=h0.2 i hy hv;have U:=R.rowIs hy q;unfold dV at U;rw[ag]at U;rcases U with⟨_,_,aS,_⟩|⟨_,G,y1,y2,_⟩
 ·simp_all
 replace y2:f.2<G.size:=by grind
 obtain⟨_,u,C,az⟩:=R.pha y i f hy ag q 0 _ _ _ (by rw[ay];rfl);rw[afw]at C;have aB:y<N:=by have:=hP _ _ h0.1;omega
 have aD:G[f.2]? = some u:=by
  rw[bd y1 y2]at C;simp_all
 have aO:=R.big;have aT:PK=1000000:=rfl;have hyk:y≠l:=by omega
 have aE:VD w p.ty p.k (blk l) u n (r.cells.map LA):=by
  rcases az r hk with⟨g',c,N',aU,K,rfl,g2,g3,g4,g5⟩|⟨K,rfl,A,rfl⟩
  ·obtain⟨F,k1,k2,k3⟩:=R.Ff hk K aw;rw[ax]at k1;refine .inl ⟨g',c,F,K,rfl,k1,?_,g3,g4,fun j x o =>?_⟩
   ·simp only[World.shape?,k1,ae5,Prod.mk.injEq]at g5;omega
   ·rw[aeU,aeV]at o;obtain⟨d,o,rfl⟩:=o;have aF:=(afp.1 o).1;have:=IJ (f1 d (afo o)) (k3 j d o).2;rw[af7 (by omega),<- this,ae1,af7 (by omega)];rfl
  ·have:=(R.rows l r hk).2;rw[K]at this;have hc:r.cells=[]:=this;exact .inr ⟨K,rfl,by rw[hc];rfl,A,rfl⟩
 have ah:∀g,blk l=some g->g.1≠f.1:=fun g hg he=>hyk (R.inj y l i r f g hy hk q hg he.symm);have aG:vs = #[.pointer (some ⟨f.1,f.2,none⟩)]++(m.map ZA).toArray:=by
  apply Array.ext
  ·simp_all
  ·intro j h1 h2;cases j with
   | zero =>
    simp_all
   | succ j =>
    have o:j<m.length:=by simp at au;omega
    have Z:=hr (j+1) _ (by rw[af3];exact ae9 o);have H:=f2 _ (ae8 o);have aH:RP w (Own M h blk) m[j] (vs.getD (j+1) undef):=by
     revert Z H;generalize m[j]=d;intro Z H;cases d<;>first|exact Z|cases H
    have:=Ul H aH;simp_all
 rw[aG];refine (Q.calls w f G i.ty (blk l) u n r.cells m cs y1 aD aE ah I J ae).mono fun e' S W =>?_;obtain⟨he,O,g,c,F,q1,q2,q3,q4,q5,q6,q7⟩:=W;refine⟨_,he,bY blk l (some g),?_,RP.int _ _⟩;have aI:∀v,¬V l v:=fun v hv=>by grind
 generalize aJ:Value.slice (some ⟨g.1,g.2,none⟩) (n+1) c=X at q2;have ai:(w.setRow f.1 (G.setIfInBounds f.2 X)).heap[f.1]? = some (.cells (G.setIfInBounds f.2 X) i.ty (0,0)):=setRow_heap w f.1 G _ i.ty (0,0) y1;have aj:(w.setRow f.1 (G.setIfInBounds f.2 X)).heap.size=w.heap.size:=by simp[World.setRow]
 have hheap:∀b,b≠f.1->(w.setRow f.1 (G.setIfInBounds f.2 X)).heap[b]? = w.heap[b]?:=by
  intro b O;simp only[World.setRow,ae6];grind
 have aK:=R.kg (r0:=⟨i.v,i.ty,[],false,false,false⟩) (w':=w.setRow f.1 (G.setIfInBounds f.2 X)) hy ad rfl rfl rfl rfl (by omega) (fun b _ O=>hheap b (O f q)) (by
  rw[q];exact⟨by simp[World.shape?,ai,y1],_,ai,by simp;omega,fun j d o=>by simp at o⟩) (fun h=>by cases h)
 have aV:bY h y (some (⟨i.v,i.ty,[],false,false,false⟩:Row)) l=some r:=by rw[aC _ _ (Ne.symm hyk)];exact hk
 have hA:=aK.VM (w':=S) (h1:=forget (bY h y (some ⟨i.v,i.ty,[],false,false,false⟩)) (some l)) (old:=some l) (d:=l) (r0:=⟨r.v,p.ty,r.cells++cs,false,true,false⟩) (go:=some g) (y0:=y) O.os O.tape O.output (by rw[aj];exact O.size)
  (fun b aF hn=>by
   by_cases ak:b=f.1
   ·simp_all
   ·rw[hheap b ak];refine O.block b (by omega) ?_;rintro (hh|⟨K,al,hh⟩)
    ·exact ak hh
    grind) (fun y' aX=>by simp_all) rfl aa aB aI
  (fun r' Y=>by
   simp only[forget]at Y;rw[aC _ _ hyk,aA]at Y;cases Y;rfl) (by
  refine⟨q1.imp (fun hh=>by rw[aj];exact hh) (fun⟨K,al,hh⟩=>⟨l,K,rfl,al,hh⟩),F,q3,?_,fun j d o =>?_⟩
  ·simp only[af6,f4,I];have:=afF p.k q4;grind
  ·have aL:Cl d=true:=by
    grind
   have hx:=q7 j (LA d) (by grind);have:F.getD (g.2+j) undef=LA d:=by simp_all
   rw[this];exact WI aL) rfl
 have aM:bY (forget (bY h y (some (⟨i.v,i.ty,[],false,false,false⟩:Row))) (some l)) l (some (⟨r.v,p.ty,r.cells++cs,false,true,false⟩:Row)) y=some ⟨i.v,i.ty,[],false,false,false⟩:=by
  rw[aC _ _ hyk];simp only[forget];rw[aC _ _ hyk,aA]
 have an:bY blk l (some g) y=some f:=by rw[aC _ _ hyk,q]
 have ao:f.2<(G.setIfInBounds f.2 X).size:=by simpa using y2
 have hB:=hA.kg (r0:=⟨i.v,i.ty,[.ph l p.k (n+1)],false,false,true⟩) (w':=S) aM rfl rfl rfl rfl rfl (aeX _) (fun b _ _=>rfl) (by
  rw[an];refine⟨rfl,.inr ⟨fun d Z=>by simp only[afj]at Z;subst Z;rfl,_,q2,by grind,fun j d o =>?_⟩⟩;cases j with
  | zero=>simp only[List.getElem?_cons_zero,ae5]at o;subst o;trivial
  | succ j=>simp at o) (fun h=>by cases h) (fun _ g' aq j x' s' n' hc=>by
  rw[an]at aq;cases aq;cases j with
  | succ j=>simp at hc
  | zero =>
  simp only[List.getElem?_cons_zero,ae5,D.ph.injEq]at hc;obtain⟨rfl,rfl,rfl⟩:=hc;rw[afw];refine⟨⟨ab,.inl aa⟩,X,?_,fun r' _ =>.inl ⟨g,c,F.size,p.ty,aA _ _ _,aJ.symm,q6,q4,q5,by simp[World.shape?,q3]⟩⟩;rw[bd q2 ao];simp_all)
 have aN:aW h [(l,some (⟨r.v,p.ty,r.cells++cs,false,true,false⟩:Row)),(y,some ⟨i.v,i.ty,[.ph l p.k (n+1)],false,false,true⟩)]=bY (bY (forget (bY h y (some (⟨i.v,i.ty,[],false,false,false⟩:Row))) (some l)) l (some (⟨r.v,p.ty,r.cells++cs,false,true,false⟩:Row))) y (some ⟨i.v,i.ty,[.ph l p.k (n+1)],false,false,true⟩):=by
  funext z;simp only[aW,forget,bY];simp_all
 show Inv _ _ _ _ _ _ _ (aW h _) _ _;rw[aN];exact hB.weaken fun _ _ h =>.inl h
def Ua (J:bG P Γ) (hI:Inv N M L w0 blk V t h a w) {c:Call} {f:Operand} {E:cd} (ho:o.op=.call c) (hc:c.callee=.value f) (Q:∀d,o.dst=some d->js N V d e) (hP:∀x v,V x v->x<N∨2*PK<=x) (D:iJ Γ h e o.dst (ev t f) (c.args.toList.map (ev t))=some E):dZ P o a w (bn N M L w0 V t h a e o.dst E):=by
 have hf:=hI.ev f;have b:∀(j:Nat) d,(c.args.toList.map (ev t))[j]? = some d->RT w (Own M h blk) h blk V d ((c.args.map a.eval).getD j undef):=by
  intro j d A;rw[aeU]at A;cases hx:c.args.toList[j]? with
  | none=>simp[hx]at A
  | some x =>
   simp only[hx,Option.map_some,ae5]at A;subst A;have:(c.args.map a.eval).getD j undef=a.eval x:=by
    simp_all
   rw[this];exact hI.ev x
 have B:(c.args.map a.eval).size=(c.args.toList.map (ev t)).length:=by simp
 have S:∀ {g:Nat} {R l:Array Value},a.eval f=.func (.func g) R l->eW P g->(execOp a.eval o).run P w=.ok (.enter g (R++c.args.map a.eval++l)) w:=by
  intro g R l z ⟨fn,aa,K,ab⟩;have hn:¬fn.name = "runtime.NumGoroutine":=by simpa using K
  have hb:¬fn.body=none:=by
   grind
  simp[execOp,ho,resolve,hc,z,Deferred.ofValue,invoke,callFunc,program,Sem.run,aa,hn,hb]
 generalize c.args.toList.map (ev t)=ds at *;generalize c.args.map a.eval=k at *;generalize ev t f=q at *;have m:∀ {g:Nat} {R l:Array Value} {args:Array Value},a.eval f=.func (.func g) R l->args=R++k++l->(eW P g∧Calls P g args w fun e' w'=>∃v,e'=.returned v∧bn N M L w0 V t h a e o.dst E v w')->dZ P o a w (bn N M L w0 V t h a e o.dst E) :=
  fun z b ⟨Y,Z⟩ =>.inr (.inr ⟨_,_,b ▸ S z Y,Z⟩)
 cases q with
 | fn g =>
  have z:a.eval f=.func (.func g) #[] #[]:=by
   have ad:RP w (Own M h blk) (.fn g) (a.eval f):=hf;generalize a.eval f=u at *;cases ad;rfl
  simp only[iJ]at D;split at D
  ·rename_i p hp;exact m z (by simp) (V4 (J.ins g p hp) hI D Q B b)
  split at D
  ·rename_i p hp;exact m z (by simp) (V1 (J.grw g p hp) hI hP D B b)
  split at D
  ·split at D
   ·rename_i x v s c0 n C;have y:(k.extract 1 k.size).size=C.length:=by simp_all
    have T:k = #[k.getD 0 undef]++k.extract 1 k.size:=by
     have:0<k.size:=by simp at B;omega
     apply Array.ext
     ·simp;omega
     ·intro i Y Z;cases i with
      | zero=>simp_all
      | succ i=>simp[af9];congr 1;omega
    have I:=b 0 _ rfl;refine m z (by grind) (D6 J hI D Q I.1 (fun r U=>(hI.aaf U).1 _ _ _ I) y (fun j d A =>?_));have:=b (j+1) d (by simpa using A);have W:(k.extract 1 k.size).getD j undef=k.getD (j+1) undef:=by
     simp only[ae1];grind
    rw[W];exact this
   ·rename_i x v c0 C;have y:(k.extract 1 k.size).size=C.length:=by simp_all
    have T:k = #[k.getD 0 undef]++k.extract 1 k.size:=by
     have:0<k.size:=by simp at B;omega
     apply Array.ext
     ·simp;omega
     ·intro i Y Z;cases i with
      | zero=>simp_all
      | succ i=>simp[af9];congr 1;omega
    have I:=b 0 _ rfl;refine m z (by grind) (D6 J hI D Q I.1 (fun r U=>(hI.aaf U).2 _ I) y (fun j d A =>?_));have:=b (j+1) d (by simpa using A);have W:(k.extract 1 k.size).getD j undef=k.getD (j+1) undef:=by
     simp only[ae1];grind
    rw[W];exact this
   ·rename_i x v C;have y:(k.extract 1 k.size).size=C.length:=by simp_all
    have T:k = #[k.getD 0 undef]++k.extract 1 k.size:=by
     have:0<k.size:=by simp at B;omega
     apply Array.ext
     ·simp;omega
     ·intro i Y Z;cases i with
      | zero=>simp_all
      | succ i=>simp[af9];congr 1;omega
    have I:=b 0 _ rfl;refine m z (by grind) (D6 J hI D Q I.1 (fun r U=>hI.W6 U I) y (fun j d A =>?_));have:=b (j+1) d (by simpa using A);have W:(k.extract 1 k.size).getD j undef=k.getD (j+1) undef:=by
     simp only[ae1];grind
    rw[W];exact this
   ·cases D
  ·exact m z (by simp) (Mg J hI D Q B b)
 | clo g F l =>
  obtain⟨H,k1,k2,k3⟩:=hf;simp only[iJ]at D
  by_cases ae:l.all sh=true
  rotate_left
  ·simp_all
  rw[if_pos ae]at D;have ag:((H.take F).toArray++k++(H.drop F).toArray).toList=H.take F++(k.toList++H.drop F):=by simp
  have ah:(H.take F).length=(l.take F).length:=by simp_all
  have y:k.toList.length=ds.length:=by simpa using B
  refine m k1 rfl (Mg J hI D Q (by simp[B,k2]) (fun j d A =>?_));have X:((H.take F).toArray++k++(H.drop F).toArray).getD j undef=(H.take F++(k.toList++H.drop F)).getD j undef:=by
   rw[<- ag,ae1,afz,afK]
  rw[X,afz];rw[List.getElem?_append]at A ⊢;rw[ah];split at A
  ·rename_i O;rw[if_pos O];have ai:j<F:=by grind
   rw[afc,if_pos ai]at A ⊢;have:=DP (k3 _ d A);simp_all
  ·rename_i O;rw[if_neg O];rw[List.getElem?_append]at A ⊢;rw[y];split at A
   ·rename_i G;rw[if_pos G];have:=b _ d A;simp_all
   ·rename_i G;rw[if_neg G];rw[afd]at A ⊢;have:=DP (k3 _ d A);simp_all
 | _=>simp[iJ]at D
def RT.aed {d:D} {n:Nat} {u:Value} (z:Inv N M L w0 blk V t h a w) (b:C5 d=some n) (j:alive h d=true) (i:RT w (Own M h blk) h blk V d u) :
  (∀s,d=.str s->u=.string s∧s.size=n)∧((∀s,d ≠ .str s)->∃A c,u=.slice A n c):=by
 cases d with
 | str s =>
  simp only[C5,ae5]at b;refine⟨fun k f =>?_,fun l=>absurd rfl (l s)⟩;cases f;exact⟨DR i,b⟩
 | sl nl tight m xs =>
  simp only[C5,ae5]at b;subst b;refine⟨fun k f=>(by cases f),fun _ =>?_⟩;have e:RP w (Own M h blk) (.sl nl tight m xs) u:=i;cases e with
  | sl A c nl tight n xs us h1 h2 h3 h4 h5 h6 h7 h8=>simp_all
 | buf x v s o m =>
  simp only[C5,ae5]at b;subst b;refine⟨fun k f=>(by cases f),fun _ =>?_⟩;simp only[alive,Option.isSome_iff_exists]at j;obtain⟨r,e⟩:=j;obtain⟨p,q⟩:=rn e;rcases i.2 r p q with⟨g,B,c,C,E,_,y,_⟩|⟨_,rfl,A,y⟩
  ·simp_all
  simp_all
 | _=>simp[C5]at b
def O4 (k:IntKind):∀(b:List D) (us:List Value) (x z:Int),zf (fun x y=>if y>x then y else x) k x b=some z->us.length=b.length->(∀j d,b[j]? = some d->RT w (Own M h blk) h blk V d (us.getD j undef)) ->
  (us.foldlM Builtin.max2 (.int k x)).run P w=.ok (.int k z) w
 | [],us,x,z,a,e,_=>by
  have:us=[]:=aga e;subst this;simp only[zf,ae5]at a;subst a;rfl
 | d::b,us,x,z,a,e,f=>by
  cases us with
  | nil=>simp at e
  | cons u us =>
   have g:=f 0 d rfl;cases d with
   | int k' y =>
    simp only[zf]at a;split at a
    ·have c:=mD g;simp only[af0]at c;subst c;have i:=O4 k b us _ z a (by simpa using e) (fun j d l=>by simpa using f (j+1) d (by simpa using l));simp only[List.foldlM_cons,aft,Builtin.max2,Sem.run_pure,Result.andThen_ok];exact i
    ·cases a
   | _=>simp[zf]at a
def O5 (k:IntKind):∀(b:List D) (us:List Value) (x z:Int),zf (fun x y=>if y<x then y else x) k x b=some z->us.length=b.length->(∀j d,b[j]? = some d->RT w (Own M h blk) h blk V d (us.getD j undef)) ->
  (us.foldlM Builtin.min2 (.int k x)).run P w=.ok (.int k z) w
 | [],us,x,z,a,e,_=>by
  have:us=[]:=aga e;subst this;simp only[zf,ae5]at a;subst a;rfl
 | d::b,us,x,z,a,e,f=>by
  cases us with
  | nil=>simp at e
  | cons u us =>
   have g:=f 0 d rfl;cases d with
   | int k' y =>
    simp only[zf]at a;split at a
    ·have c:=mD g;simp only[af0]at c;subst c;have i:=O5 k b us _ z a (by simpa using e) (fun j d l=>by simpa using f (j+1) d (by simpa using l));simp only[List.foldlM_cons,aft,Builtin.min2,Sem.run_pure,Result.andThen_ok];exact i
    ·cases a
   | _=>simp[zf]at a
end
section
variable {P:Program} {T:Nat->Option Ty} {N:Nat} {M:Nat->Prop} {L:jM} {w0:World} {blk:Nat->Option (Nat×Nat)} {V:Nat->Nat->Prop} {t:Nat->D} {h:Nat->Option Row} {a:Act} {w:World} {e:Nat} {o:Oper} {Γ:Env}
def Inv.content (Q:Inv N M L w0 blk V t h a w) {d:D} {m s:Nat} {i:List D} {u:Value} (Z:0<s) (k:content h d=some (m,i)) (R:i.length=m*s) (O:RT w (Own M h blk) h blk V d u) :
  ∃(A:Option Addr) (c:Nat) (l:List Value),u=.slice A m c∧m<=c∧l.length=i.length∧(∀j x,i[j]? = some x->bz x=true∧RP w (Own M h blk) x (l.getD j undef)) ∧
   (∀B,A=some B->∀j v,l[j]? = some v->w.cell? (B.add j)=some v)∧(A=none->m=0∧c=0):=by
 cases d with
 | sl nl tight n xs =>
  simp only[Am.content,ae5,Prod.mk.injEq]at k;obtain⟨rfl,rfl⟩:=k;have G:RP w (Own M h blk) (.sl nl tight n xs) u:=O;cases G with
  | sl A c nl tight n xs l h1 h2 h3 h4 h5 h6 h7 h8 =>
   refine⟨A,c,(List.range xs.length).map l,rfl,h1,by simp,fun j x f=>⟨h8 x (afo f),?_⟩,fun B p j v f =>?_,h4⟩
   ·have e:=(afp.1 f).1;have:((List.range xs.length).map l).getD j undef=l j:=by simp[List.getD,e]
    rw[this];exact h7 j x f
   ·obtain⟨e,C⟩:=afp.1 f;simp only[afq,afr]at e;simp only[List.getElem_map,afs]at C;have H:xs≠[]:=by rintro rfl;simp at e
    obtain⟨b,o,y,_,_,F⟩:=h6 H;rw[p]at y;simp only[ae5]at y;subst y;rw[qI,<- C];exact F j e
 | buf x v z q n =>
  simp only[Am.content]at k;split at k
  ·rename_i r I;split at k
   ·rename_i S;simp only[ae5,Prod.mk.injEq]at k;obtain⟨rfl,rfl⟩:=k;rcases Q.zG I O with⟨g,o',c,cs,T,U,P,F,W,X,g7,Y⟩|⟨T,rfl,P,A,F⟩
    ·have E:((r.cells.drop q).take (n*z)).length=n*z:=by simp;omega
     rw[E]at R;refine⟨_,c,(List.range (n*z)).map (fun j=>cs.getD (g.2+(q+j)) undef),U,P,by simp;omega,fun j x f =>?_,fun B p j v f =>?_,fun p=>by cases p⟩
     ·rw[dt]at f;split at f
      ·rename_i J;have:((List.range (n*z)).map (fun j=>cs.getD (g.2+(q+j)) undef)).getD j undef=cs.getD (g.2+(q+j)) undef:=by simp[List.getD,J]
       rw[this];exact Y _ _ f
      ·cases f
     ·obtain⟨e,C⟩:=afp.1 f;simp only[afq,afr]at e;simp only[List.getElem_map,afs]at C;simp only[ae5]at p;subst p;have hn:0<n:=by
       rcases afe n with K|K
       ·subst K;simp at e
       ·exact K
      have:=(X (.inl (by omega))).1;subst this;rw[qI,<- C,afh];exact bd W (by omega)
    ·refine⟨A,0,[],F,aeX _,by simp,fun j x f=>by simp at f,fun B p j v f=>by simp at f,fun _=>⟨rfl,rfl⟩⟩
   ·cases k
  ·cases k
 | _=>simp[Am.content]at k
def appended {M':Nat->Prop} {olds news:List D} {xs us:List Value} {cur:Array Value} {b:Nat} (d:xs.length=olds.length) (g:us.length=news.length) (a:(cur.toList.drop b).take (olds.length+news.length)=xs++us)
  (h:∀j x,olds[j]? = some x->bz x=true∧RP w M' x (xs.getD j undef)) (i:∀j x,news[j]? = some x->bz x=true∧RP w M' x (us.getD j undef)) (j:Nat) (x:D) (c:(olds++news)[j]? = some x) :
  bz x=true∧RP w M' x (cur.getD (b+j) undef):=by
 have e:j<olds.length+news.length:=by
  have:=(afp.1 c).1;simpa using this
 have k:cur.getD (b+j) undef=(xs++us).getD j undef:=by
  rw[<- a];simp only[afz,afc,if_pos e,afd];simp
 rw[k]
 by_cases f:j<olds.length
 ·rw[afQ f]at c;have:(xs++us).getD j undef=xs.getD j undef:=by
   simp only[afz];rw[afQ (by omega)]
  rw[this];exact h j x c
 ·rw[afT (by omega)]at c;have:(xs++us).getD j undef=us.getD (j-olds.length) undef:=by
   simp only[afz];rw[afT (by omega),d]
  rw[this];exact i _ x c
def Xq {e:Nat->Prop} {a:List D} {b:List Value} (f:b.length=a.length) (g:∀j x,a[j]? = some x->bz x=true∧RP w e x (b.getD j undef)):∀u∈b,u.oneCell'=true:=by
 intro u h;obtain⟨j,c⟩:=afi h;have i:=(afp.1 c).1;obtain⟨k,d⟩:=g j _ (ae9 (by omega));have:b.getD j undef=u:=by simp[List.getD,c]
 rw[this]at d;exact d.sj k
def pG (t g el:Nat) {τ:Ty} (d:P.underlying t=some (.slice el)) {φ:Ty} (e:eX P el φ) (A B:Option Addr) (n c k:Nat) (f:n<=c):(Builtin.append_ #[t,t] g #[.slice A n c,.slice B 0 k]).run P w=.ok (.slice A n c) w:=by
 have a:(Builtin.firstCells φ.size 0 (.slice B 0 k)).run P w=.ok #[] w:=by
  cases B with
  | none=>simp[Builtin.firstCells]
  | some b=>simp[Builtin.firstCells,loadCells,loadCellsFrom]
 cases A with
 | none=>simp[Builtin.append_,run_underlying d,run_sizeOf e,Builtin.lenOf,f,a]
 | some b=>simp[Builtin.append_,run_underlying d,run_sizeOf e,Builtin.lenOf,f,a,storeCells]
def Gu (t y el:Nat) {φ:Ty} (I:P.underlying t=some (.slice el)) (Q:eX P el φ) (J:0<φ.size) (B:φ.zero.length=φ.size) (A:Option Addr) (n a:Nat) (e:List Value) (l:e.length=n*φ.size)
  (C:∀r,A=some r->∀j u,e[j]? = some u->w.cell? (r.add j)=some u) (R:A=none->n=0∧a=0) (b:Addr) (m c:Nat) (f:List Value) (d:f.length=m*φ.size)
  (s:∀j u,f[j]? = some u->w.cell? (b.add j)=some u) (K:a<n+m) (v:n+m<=maxLen) (L:(n+m)*φ.bytes<=140737488355328) :
  ∃k g,(Builtin.append_ #[t,t] y #[.slice A n a,.slice (some b) m c]).run P w=.ok (.slice (some ⟨w.heap.size,0,none⟩) (n+m) k) (w.drew.alloc (.cells g el))∧n+m<=k∧k<=maxLen∧k*φ.size=g.size∧g.toList.take ((n+m)*φ.size)=e++f:=by
 obtain⟨T,i,z,U,V,M,D,N,O,S⟩:=Q.get;have E:z.cells.size=φ.size:=by rw[S];simpa using B
 have h:((n+m:Nat):Int)<=9223372036854775807:=by simp only[maxLen]at v;omega
 have x:(e++f).length=(n+m)*φ.size:=by rw[af6,l,d,Nat.add_mul]
 have o:=grownCap_ge w (n+m) a el;have p:grownCap w (n+m) a el<=maxLen:=grownCap_le_maxLen w (n+m) a el v;have q:∀g:Array Value,g=e.toArray++f.toArray++Builtin.zeroCells z.cells (grownCap w (n+m) a el-(n+m))->grownCap w (n+m) a el*φ.size=g.size∧g.toList.take ((n+m)*φ.size)=e++f:=by
  intro g F;subst F;refine⟨?_,?_⟩
  ·simp only[Array.size_append,agb,size_zeroCells,E,l,d,<- Nat.add_mul];congr 1;omega
  ·simp only[agc,agd];rw[<- agd,<- x];exact List.take_left
 cases A with
 | some r =>
  have G:=run_append_grow (P:=P) w t y el i z I M O r n a e (by rw[D];exact l) (C r rfl) b m c f (by rw[D];exact d) s K h (growslice_fits K (by rw[N];exact L));obtain⟨f1,f2⟩:=q _ rfl;exact⟨_,_,G,o,p,f1,f2⟩
 | none =>
  obtain⟨rfl,rfl⟩:=R rfl;have H:e=[]:=aga (by omega);subst H;have G:=run_append_nil (P:=P) w t y el i z I M O b m c f (by rw[D];exact d) s (by omega) (by simpa using h) (by rw[N];simp only[afH]at L;omega);simp only[afH]at o p q ⊢;obtain⟨f1,f2⟩:=q _ rfl;refine⟨_,_,G,o,p,?_,?_⟩
  ·simpa using f1
  ·simpa using f2
def Hr (t r el:Nat) {φ:Ty} (s:P.underlying t=some (.slice el)) (v:eX P el φ) (g q n e:Nat) (a:Array Value) (x:w.heap[g]? = some (.cells a el (0,0))) (b:Addr) (m c:Nat) (d:List Value) (l:d.length=m*φ.size)
  (o:∀j u,d[j]? = some u->w.cell? (b.add j)=some u) (y:∀u∈d,u.oneCell'=true) (f:n+m<=e) (h:q+n*φ.size+d.length<=a.size) :
  (Builtin.append_ #[t,t] r #[.slice (some ⟨g,q,none⟩) n e,.slice (some b) m c]).run P w =
   .ok (.slice (some ⟨g,q,none⟩) (n+m) e) (w.setRow g (a.toList.take (q+n*φ.size)++d++a.toList.drop (q+n*φ.size+d.length)).toArray):=by
 obtain⟨C,i,z,D,E,A,p,F,G,H⟩:=v.get;have B:=run_firstCells_some (P:=P) w i.size m b m c d (by rw[p];exact l) o;have k:=run_storeCells_at P g (q+n*i.size) el d 0 a w x (by rw[p];simpa using h) y;simp only[Nat.add_zero]at k;rw[<- p];simp[Builtin.append_,run_underlying s,sizeOf,typeInfo,A,Builtin.lenOf,f,B,qI,k]
def AQ {α:Type} (l c a:List α) (b k:Nat) (h:b+k<=l.length):((l.take (b+k)++c++a).drop b).take (k+c.length)=(l.drop b).take k++c:=by
 have d:((l.drop b).take k).length=k:=by simp;omega
 rw[agd,age (by simp;omega),List.drop_take,agf,agh,d,agf,agi (aeX _),agj (l:=c) (aeX _),agj (by rw[d];omega)]
def MP (hT:iI P T) (U:Inv N M L w0 blk V t h a w) {c:Call} {s x:Operand} {K d:Nat} {τ:Ty} {E:cd} (ho:o.op=.call c) (hc:c.callee=.builtin .append) (au:c.args = #[s,x]) (aH:c.argTypes = #[K,K]) (hd:o.dst=some d)
  (hV:js N V d e) (hτ:T K=some τ) (p:jE T τ h e d (ev t s) (ev t x)=some E):dZ P o a w (bn N M L w0 V t h a e o.dst E):=by
 have W:=U.ev s;have av:=U.ev x;generalize ev t s=qs at *;generalize ev t x=qx at *;obtain⟨dd,aa,aI⟩:=under hT hτ;have C:∀v w',(Builtin.append_ #[K,K] o.type #[a.eval s,a.eval x]).run P w=.ok v w'->(execOp a.eval o).run P w=.ok (.value v) w':=by
  intro v w' hr;simp[execOp,ho,resolve,hc,au,aH,invoke,builtin,hr]
 unfold jE at p;split at p
 ·rename_i el aS;rw[aS]at aI;have:=fS aI;subst this;split at p
  ·rename_i φ m news hφ O;split at p
   ·rename_i i;have grow:∀(F:Option Nat) (A:Option Addr) (n cap:Nat) (xs:List Value) (olds:List D),(∀y,F=some y->∃r,h y=some r∧r.fz=false)->a.eval s=.slice A n cap->n<=cap->(A=none->n=0∧cap=0)->xs.length=n*φ.size->olds.length=xs.length ->
      (∀ad,A=some ad->∀j u,xs[j]? = some u->w.cell? (ad.add j)=some u)->(∀(j:Nat) x,olds[j]? = some x->bz x=true∧RP w (Own M h blk) x (xs.getD j undef))->cap<n+m->n+m<=maxLen->(n+m)*φ.bytes<=140737488355328->news.length=m*φ.size ->
      E=⟨.buf d e φ.size 0 (n+m),(match F with|some y=>[(y,none)]|none=>[])++[(d,some ⟨e,el,olds++news,false,true,false⟩)]⟩->dZ P o a w (bn N M L w0 V t h a e o.dst E):=by
     intro F A n cap xs olds aJ hs bd hA aw G aT ax aU aV aW ay aX;obtain⟨B,cb,S,X,aq,ab,ae,aj,ak⟩:=U.content i.1 O ay av;cases B with
     | none =>
      have:=(ak rfl).1;subst this;omega
     | some b =>
      obtain⟨k,vs,H,g1,g2,g3,g4⟩:=Gu (P:=P) (w:=w) K o.type el aa (hT el φ hφ) i.1 i.2 A n cap xs aw aT hA b m cb S (by omega) (aj b rfl) aU aV aW;have hb:Below w.heap.size w (w.drew.alloc (.cells vs el)):=((Below.refl _ _).drew).alloc (by simp) _;refine aN (C _ _ (by rw[hs,X];exact H)) ?_;have:=U.fresh (old:=F) (dst:=o.dst) (e:=e) (d:=d) (ty:=el) (s:=φ.size) (n:=n+m) (cells:=olds++news) (w':=w.drew.alloc (.cells vs el)) (v := .slice (some ⟨w.heap.size,0,none⟩) (n+m) k) hd hV (ez.Aj hb) aJ
       (.inl ⟨(w.heap.size,0),k,vs,rfl,.inl (aeX _),by simpa using heap_alloc_new w.drew (.cells vs el),g1,g2,by simpa using g3,?_,fun j y hj =>?_⟩)
      ·subst aX;unfold bn;cases F with
       | none=>exact this
       | some y=>exact this
      ·simp only[afH,af6,G,aw,ay,<- Nat.add_mul];rw[<- g3];exact afF _ g1
      ·have Y:=appended (b:=0) (M':=Own M h blk) (w:=w) (olds:=olds) (news:=news) (xs:=xs) (us:=S) (cur:=vs) G.symm ab (by rw[agk,G,aw,ay,<- Nat.add_mul];exact g4) ax ae j y hj;simp only[afH]at Y ⊢;refine⟨Y.1,Y.2.keep fun b k1 k2=>⟨ae0 k1 hb.size,fun az =>?_,hb.block b k1⟩⟩;rcases az with az|rfl
       ·exact k2 (zj az)
       ·omega
    split at p
    ·rename_i nl tight n xs;split at p
     ·rename_i Q;obtain⟨k1,k2,k3,k4,k5⟩:=Q;split at p
      ·rename_i hm;subst hm;simp only[ae5]at p;subst p;obtain⟨A,cx,S,X,aq,ab,ae,aj,ak⟩:=U.content i.1 O k5 av;obtain⟨B,cb,al,f,I,_⟩:=U.content (d := .sl nl tight n xs) i.1 rfl k4 W;refine aN (C _ _ (by rw[f,X];exact pG (τ:=τ) K o.type el aa (hT el φ hφ) B A n cb cx I)) (bn.dO U ?_);rw[<- f];exact W
      ·rename_i hm;simp only[ae5]at p;obtain⟨B,cb,al,f,I,aY,aA,aB,aC⟩:=U.content (d := .sl nl tight n xs) i.1 rfl k4 W;have aL:cb=n:=by
        have aM:RP w (Own M h blk) (.sl nl tight n xs) (a.eval s):=W;generalize a.eval s=u at *;cases aM with
        | sl A' c' nl tight n xs bf h1 h2 h3 h4 h5 h6 h7 h8 =>
         simp only[Value.slice.injEq]at f;obtain⟨_,_,rfl⟩:=f;exact h5 k1
       subst aL;exact grow none B cb cb al xs (fun y hy=>by cases hy) f I (fun h=>(aC h)) (by omega) (by omega) aB aA (by omega) k2 k3 k5 p.symm
     ·cases p
    ·rename_i y v zz q n;split at p
     ·rename_i r aD;split at p
      ·rename_i Q;obtain⟨k1,k2,k3,k4,k5,k6,k7⟩:=Q;subst k1;simp only[ae5]at p;obtain⟨an,bh⟩:=cw aD;have ao:Am.content h (.buf y v φ.size q n)=some (n,(r.cells.drop q).take (n*φ.size)):=by simp only[Am.content,aD,if_pos k4]
       have G:((r.cells.drop q).take (n*φ.size)).length=n*φ.size:=by simp;omega
       obtain⟨B,cb,al,f,I,aY,aA,aB,aC⟩:=U.content i.1 ao G W
       by_cases R:n+m<=cb
       ·obtain⟨A,cx,S,X,aq,ab,ae,aj,ak⟩:=U.content i.1 O k7 av;have ag:cb=0->dZ P o a w (bn N M L w0 V t h a e o.dst E):=by
         intro h0;have aZ:n=0:=by omega
         have a1:m=0:=by omega
         subst aZ a1 h0;have aE:news=[]:=aga (by omega);subst p aE;refine aN (C _ _ (by rw[f,X];exact pG (τ:=τ) K o.type el aa (hT el φ hφ) B A 0 0 cx (aeX _))) ?_;have:=U.fresh (old:=some y) (dst:=o.dst) (e:=e) (d:=d) (ty:=el) (s:=φ.size) (n:=0) (cells:=[]) (w':=w) (v := .slice B 0 0) hd hV (ez.refl _ _) (fun y' ah=>by cases ah;exact⟨r,an,k3⟩) (.inr ⟨rfl,rfl,B,rfl⟩);unfold bn;have e0:(r.cells.drop q).take (0*φ.size)++[]=[]:=by simp
         rw[e0];exact this
        rcases U.zG aD W with⟨g,o',J,Z,g0,g1,g2,g3,g4,g5,g7,g8⟩|⟨g0,g1,g2,A',g3⟩
        ·have a6:J=cb:=by rw[g1]at f;simp at f;exact f.2
         subst a6
         by_cases a7:0<J∨q=0
         ·obtain⟨a8,ba⟩:=g5 a7;subst a8;have aF:(n+m)*φ.size<=J*φ.size:=afF _ R;rw[Nat.add_mul]at aF;have aO:g.2+q+n*φ.size+S.length<=Z.size:=by omega
          have aP:((Z.toList.drop (g.2+q)).take (n*φ.size)).length=n*φ.size:=by simp;omega
          have H:∃l,(Builtin.append_ #[K,K] o.type #[a.eval s,a.eval x]).run P w=.ok (.slice (some ⟨g.1,g.2+q,none⟩) (n+m) J) (w.setRow g.1 l)∧l.size=Z.size∧(l.toList.drop (g.2+q)).take (n*φ.size+m*φ.size)=(Z.toList.drop (g.2+q)).take (n*φ.size)++S:=by
           rw[X,g1];cases A with
           | some ad =>
            refine⟨_,Hr (P:=P) K o.type el aa (hT el φ hφ) g.1 (g.2+q) n J Z (by rw[<- k2];exact g4) ad m cx S (by omega) (aj ad rfl) (Xq ab ae) R aO,by simp;omega,?_⟩;have:=AQ Z.toList S (Z.toList.drop (g.2+q+n*φ.size+S.length)) (g.2+q) (n*φ.size) (by simp;omega);have aQ:S.length=m*φ.size:=by omega
            rw[aQ]at this;rw[aQ];exact this
           | none =>
            obtain⟨rfl,rfl⟩:=ak rfl;have bb:S=[]:=aga (by omega);subst bb;refine⟨Z,?_,rfl,by simp⟩;rw[setRow_self w g.1 Z r.ty (0,0) g4];exact pG (τ:=τ) K o.type el aa (hT el φ hφ) _ _ n J 0 g2
          obtain⟨l,H,aR,aG⟩:=H;subst p;have ar:Own M h blk g.1 := .inr ⟨y,r,g,an,k3,g0,rfl⟩;have hheap:∀b,b≠g.1->(w.setRow g.1 l).heap[b]? = w.heap[b]?:=by
           intro b hb;simp only[World.setRow,ae6];rw[if_neg (Ne.symm hb)]
          have ai:(w.setRow g.1 l).heap.size=w.heap.size:=by simp[World.setRow]
          refine aN (C _ _ H) ?_;have:=U.fresh (old:=some y) (dst:=o.dst) (e:=e) (d:=d) (ty:=el) (s:=φ.size) (n:=n+m) (cells:=(r.cells.drop q).take (n*φ.size)++news) (w':=w.setRow g.1 l) (v := .slice (some ⟨g.1,g.2+q,none⟩) (n+m) J) hd hV
           ⟨rfl,rfl,rfl,by rw[ai];exact aeX _,fun b _ hb=>hheap b (fun he=>hb ⟨y,g,rfl,g0,he⟩)⟩ (fun y' ah=>by cases ah;exact⟨r,an,k3⟩)
           (.inl ⟨(g.1,g.2+q),J,l,rfl,.inr ⟨y,g,rfl,g0,rfl⟩,by rw[<- k2];exact setRow_heap w g.1 Z l r.ty (0,0) g4,R,g3,by rw[aR];exact ba,by simp only[af6,G];omega,fun j z hj =>?_⟩)
          ·unfold bn;exact this
          ·have Y:=appended (b:=g.2+q) (M':=Own M h blk) (w:=w) (olds:=(r.cells.drop q).take (n*φ.size)) (news:=news) (xs:=(Z.toList.drop (g.2+q)).take (n*φ.size)) (us:=S) (cur:=l) (by rw[G,aP]) ab (by rw[G,k7];exact aG)
            (fun j z hj=>by
             rw[dt]at hj;split at hj
             ·rename_i bc;have:=g8 _ _ hj;have he:((Z.toList.drop (g.2+q)).take (n*φ.size)).getD j undef=Z.getD (g.2+(q+j)) undef:=by
               simp only[afz,dt,if_pos bc,afh];simp
              rw[he];exact this
             ·cases hj) ae j z hj
           refine⟨Y.1,Y.2.keep fun b q1 q2=>⟨by rw[ai];exact q1,?_,hheap b (fun he=>q2 (he ▸ ar))⟩⟩;rintro (hb|rfl)
           ·exact q2 (zj hb)
           ·exact q2 ar
         ·exact ag (by omega)
        ·rw[g3]at f;simp only[Value.slice.injEq]at f;exact ag (by omega)
       ·exact grow (some y) B n cb al _ (fun y' ah=>by cases ah;exact⟨r,an,k3⟩) f I (fun h=>(aC h)) (by omega) (by omega) aB aA (by omega) k5 k6 k7 p.symm
      ·cases p
     ·cases p
    ·cases p
   ·cases p
  ·cases p
 ·cases p
end
section
variable {P:Program} {T:Nat->Option Ty} {N:Nat} {M:Nat->Prop} {L:jM} {w0:World} {blk:Nat->Option (Nat×Nat)} {V:Nat->Nat->Prop} {t:Nat->D} {h:Nat->Option Row} {a:Act} {w:World} {e:Nat} {o:Oper} {Γ:Env}
def Pb {s:Ds} {x:D} (a:kindOk s x=true):s.tw=false∧O9 s=true:=by
 cases s<;>cases x<;>simp[kindOk]at a<;>exact⟨rfl,rfl⟩
def zo (q:iI P T) (n:Nat) {M':Nat->Prop} {us vs:List Value} : ∀(F:List Field) (o:Nat) (a d:List D) (b:Bool),(∀f∈F,f.name ≠ "_")->lV T o (F.map fun f=>(f.type,f.offset)) a=true->Z2 a d=some b ->
  (∀j x,a[j]? = some x->RP w M' x (us.getD (o+j) undef)∧o+j<us.length)->(∀j y,d[j]? = some y->RP w M' y (vs.getD (o+j) undef)∧o+j<vs.length) ->
  (forIn F ((none,()):Option Bool×Unit) fun f __s =>
   if f.name ≠ "_" then do
    let __do_lift <- part f.type us.toArray f.offset
    let __do_lift_1 <- part f.type vs.toArray f.offset
    let __do_lift <- Op.equalIn (n+1) f.type __do_lift __do_lift_1
    if (!__do_lift)=true then pure (ForInStep.done (some false,())) else pure (ForInStep.yield (none,()))
   else (pure (ForInStep.yield (none,())):Sem _)).run P w=.ok (if b then (none,()) else (some false,())) w
 | [],o,a,d,b,hn,e,c,s,t=>by
  cases a with
  | nil =>
   cases d with
   | nil =>
    simp only[Z2,ae5]at c;subst c;rfl
   | cons y d=>simp[Z2]at c
  | cons x a=>simp[lV]at e
 | f::F,o,a,d,b,hn,e,c,s,t=>by
  cases a with
  | nil=>simp[lV]at e
  | cons x a =>
   cases d with
   | nil=>simp[Z2]at c
   | cons y d =>
    simp only[ae2,lV,afx,beq_iff_eq]at e;obtain⟨⟨G,r⟩,I⟩:=e;simp only[Z2]at c;split at c
    ·rename_i J K h u;simp only[ae5]at c;subst c;split at r
     ·rename_i φ v;obtain⟨i,k⟩:=s 0 x rfl;obtain⟨l,m⟩:=t 0 y rfl;rw[afw]at i k l m;obtain⟨H,L⟩:=Pb r;have A:(part f.type us.toArray f.offset).run P w=.ok (us.getD o undef) w:=by
       have p:us.toArray[f.offset]? = some (us.getD o undef):=by rw[G];simp[List.getD,ae9 k]
       simp only[part,aft,mu (q _ _ v),H,Result.andThen_ok,afv,if_false,p];rfl
      have B:(part f.type vs.toArray f.offset).run P w=.ok (vs.getD o undef) w:=by
       have p:vs.toArray[f.offset]? = some (vs.getD o undef):=by rw[G];simp[List.getD,ae9 m]
       simp only[part,aft,mu (q _ _ v),H,Result.andThen_ok,afv,if_false,p];rfl
      have C:=(Y9 q v L i l h n).2 (Ui h r);have M:=zo q n F (o+1) a d K (fun g p=>hn g (by simp[p])) I u (fun j z E=>by have:=s (j+1) z E;rwa [show o+(j+1)=o+1+j by omega]at this) (fun j z E=>by have:=t (j+1) z E;rwa [show o+(j+1)=o+1+j by omega]at this);rw[List.forIn_cons];simp only[aft];rw[if_pos (hn f (by simp))];simp only[aft,A,Result.andThen_ok,B,C];cases J with
      | false=>rfl
      | true =>
       simp only[agl,afv,if_false,Sem.run_pure,Result.andThen_ok,agm];exact M
     ·cases r
    ·cases c
def run_equalIn_bool (n:Nat) {a:Nat} (b:P.underlying a=some .bool) (i j:Bool):(Op.equalIn (n+1) a (.bool i) (.bool j)).run P w=.ok (i==j) w:=by
 simp[Op.equalIn,run_underlying b]
def run_equalIn_struct (n:Nat) {d:Nat} {F:Array Field} (e:P.underlying d=some (.struct F)) (g:P.stoodInHeld d=false) {us vs:List Value} {b:Bool}
  (a:(forIn F.toList ((none,()):Option Bool×Unit) fun f __s =>
   if f.name ≠ "_" then do
    let __do_lift <- part f.type us.toArray f.offset
    let __do_lift_1 <- part f.type vs.toArray f.offset
    let __do_lift <- Op.equalIn (n+1) f.type __do_lift __do_lift_1
    if (!__do_lift)=true then pure (ForInStep.done (some false,())) else pure (ForInStep.yield (none,()))
   else (pure (ForInStep.yield (none,())):Sem _)).run P w=.ok (if b then (none,()) else (some false,())) w) :
  (Op.equalIn (n+1+1) d (.agg us.toArray) (.agg vs.toArray)).run P w=.ok b w:=by
 have c:(program:Sem Program).run P w=.ok P w:=rfl;rw[Op.equalIn];simp only[aft,run_underlying e,Result.andThen_ok,c,g,afv,if_false];rw[<- Array.forIn_toList,a];cases b<;>rfl
def Tw (O:iI P T) (hI:Inv N M L w0 blk V t h a w) {r:Nat} {τ:Ty} (W:T r=some τ) {x y:D} {u v:Value} {b:Bool} (Q:RT w (Own M h blk) h blk V x u) (R:RT w (Own M h blk) h blk V y v) (e:Z1 T τ x y=some b) :
  (Op.equal r u v).run P w=.ok b w∧(∀(p q:Operand) (g:BinOp),(eqGuard g r p q u v).run P w=.ok () w)∧(∀g,g=.eql∨g=.neq->binOp g r u v=(match g with | .eql=>(do pure (.bool (<- Op.equal r u v)):Sem Value)|_=>do pure (.bool (!(<- Op.equal r u v))))):=by
 obtain⟨d,K,E⟩:=under O W;unfold Z1 at e;split at e
 ·rename_i i j;have Z:=xn Q;have hv:=xn R;subst Z hv;split at e
  ·rename_i l;rw[l]at E;have:=xx E;subst this;simp only[ae5]at e;subst e;refine⟨run_equalIn_bool 9999 K i j,fun p q g=>by cases g<;>rfl,fun g m =>?_⟩;rcases m with rfl|rfl<;>rfl
  ·cases e
 ·rename_i nl X n G;have s:RP w (Own M h blk) (.sl nl X n G) u:=Q;have z:RP w (Own M h blk) (.sl true true 0 []) v:=R;split at e
  ·rename_i el l;rw[l]at E;have:=fS E;subst this;cases z with
   | sl A c _ _ _ _ us h1 h2 h3 h4 h5 h6 h7 h8 =>
    obtain⟨rfl,rfl⟩:=(h3 rfl).1 rfl;cases s with
    | sl B c' _ _ _ _ aa g1 g2 g3 g4 g5 g6 g7 g8 =>
     have hr:=run_equal_slice_nil (P:=P) w r el B n c' K;refine⟨?_,fun p q g=>by cases g<;>rfl,fun g m =>?_⟩
     ·rw[hr];have hB:B.isNone=b:=by
       unfold YZ at e;split at e
       ·rename_i Y;simp only[ae5]at e;subst e;cases B with
        | none=>have:=(g4 rfl).1;omega
        | some _=>rfl
       ·split at e
        ·rename_i H;simp only[ae5]at e;subst e;cases I:X with
         | true=>rw[((g3 H).1 I).1];rfl
         | false =>
          cases B with
          | none=>exact absurd rfl ((g3 H).2 I)
          | some _=>rfl
        ·cases e
      rw[<- hB]
     ·rcases m with rfl|rfl<;>rfl
  ·cases e
 ·rename_i G S;have s:RP w (Own M h blk) (.agg G) u:=Q;have z:RP w (Own M h blk) (.agg S) v:=R;split at e
  ·rename_i fs l;rw[l]at E;obtain⟨F,rfl,hF⟩:=gY E;split at e
   ·rename_i k;simp only[afx]at k;obtain⟨q1,q2,U⟩:=(O r τ W).eqs k.1;rw[K]at U;simp only at U;cases s with
    | agg G us h1 h2 h3 =>
     cases z with
     | agg S vs g1 g2 g3 =>
      have o:∀f∈F.toList,f.name ≠ "_":=by
       intro f hf;have:=Array.all_eq_true_iff_forall_mem.1 U f (by simpa using hf);simpa using this
      have C:=zo (P:=P) (w:=w) O 9998 (M':=Own M h blk) (us:=us) (vs:=vs) F.toList 0 G S b o (by rw[hF];exact k.2) e
       (fun j x J=>by rw[afH];exact⟨h2 j x J,by have:=(afp.1 J).1;omega⟩) (fun j x J=>by rw[afH];exact⟨g2 j x J,by have:=(afp.1 J).1;omega⟩)
      refine⟨?_,fun p q g =>?_,fun g m =>?_⟩
      ·exact run_equalIn_struct 9998 K q1 C
      ·cases g<;>first|rfl|simp[eqGuard,program,Sem.run,q2]
      ·rcases m with rfl|rfl<;>rfl
   ·cases e
  ·cases e
 ·cases e
def Qe (Q:iI P T) (g:Inv N M L w0 blk V t h a w) {x y:Operand} {l:BinOp} {f E:Nat} {d:D} (m:o.op=.binOp l f x y E) (b:DZ T f l (ev t x) (ev t y)=some d):dZ P o a w (bn N M L w0 V t h a e o.dst ⟨d,[]⟩):=by
 have u:=g.ev x;have z:=g.ev y;generalize ev t x=p at *;generalize ev t y=q at *;unfold DZ at b;split at b
 ·rename_i k i F j;have A:=mD u;have B:=mD z;have C:(eqGuard l f x y (.int k i) (.int F j)).run P w=.ok () w:=by cases l<;>rfl
  split at b
  ·rename_i G;obtain⟨v,n,r⟩:=Rt (P:=P) (w:=w) (M:=Own M h blk) (ty:=f) (k':=F) G b;exact aN (by simp[execOp,m,A,B,C,n]) (bn.dO g (bQ r))
  ·rename_i G;split at b
   ·rename_i S;subst S;obtain⟨v,n,r⟩:=XD (P:=P) (w:=w) (M:=Own M h blk) (ty:=f) (by simpa using G) b;exact aN (by simp[execOp,m,A,B,C,n]) (bn.dO g (bQ r))
   ·cases b
 ·rename_i s U;have A:=DR u;have B:=DR z;have C:(eqGuard l f x y (.string s) (.string U)).run P w=.ok () w:=by cases l<;>rfl
  obtain⟨v,n,r⟩:=XF (P:=P) (w:=w) (M:=Own M h blk) (ty:=f) b;exact aN (by simp[execOp,m,A,B,C,n]) (bn.dO g (bQ r))
 ·split at b
  ·rename_i τ R;split at b
   ·split at b
    ·rename_i c H;simp only[ae5]at b;subst b;obtain⟨I,J,K⟩:=Tw (P:=P) Q g R u z H;have O:=K .eql (.inl rfl);exact aN (v := .bool c) (w':=w) (by simp[execOp,m,J,O,I]) (bn.dO g (bQ (.bool _)))
    ·cases b
   ·split at b
    ·rename_i c H;simp only[ae5]at b;subst b;obtain⟨I,J,K⟩:=Tw (P:=P) Q g R u z H;have O:=K .neq (.inr rfl);exact aN (v := .bool !c) (w':=w) (by simp[execOp,m,J,O,I]) (bn.dO g (bQ (.bool _)))
    ·cases b
   ·cases b
  ·cases b
end
def Ck (n:Int):∀(a:List Int) (l:List MapEntry) (us:Nat->Value) (i:Nat),l.length=a.length->(∀j k,a[j]? = some k->∃e:MapEntry,l[j]? = some e∧e.key=.int .i64 k∧e.val=us j) ->
  Instr.findNow (.int .i64) (.int .i64 n) l i=some (if a.contains n then some (i+a.idxOf n,us (a.idxOf n)) else none)
 | [],[],_,_,_,_=>by simp[Instr.findNow]
 | k::a,e::l,us,i,m,h=>by
  obtain⟨s,f,g,o⟩:=h 0 k rfl;simp only[List.getElem?_cons_zero,ae5]at f;subst f;have p:=Ck n a l (fun j=>us (j+1)) (i+1) (by simpa using m) (fun j k q=>by simpa using h (j+1) k (by simpa using q))
  by_cases b:k=n
  ·subst b;simp[Instr.findNow,g,Instr.sameNow,o,afX]
  ·have c:(n==k)=false:=by simp[Ne.symm b]
   have d:(k==n)=false:=by simp[b]
   simp only[Instr.findNow,g,Instr.sameNow,if_true,c,p,afY,afZ,afX,d,cond_false];have r:i+1+List.idxOf n a=i+(List.idxOf n a+1):=by omega
   rw[r]
def Ux {c:List dp} (h:c.all (fun k=>Hy k==false)=true):c=(c.map (·.1)).map fun n=>(n,none):=by
 induction c with
 | nil=>rfl
 | cons k c d =>
  simp only[List.all_cons,afx]at h;obtain⟨a,x⟩:=k;cases x with
  | none=>simp only[ae2];rw[<- d h.2]
  | some b=>simp[Hy]at h
def zL (n:Int) (l:List Int):(l.map fun m=>((m,none):dp)).contains (n,none)=l.contains n∧(l.map fun m=>((m,none):dp)).idxOf (n,none)=l.idxOf n:=by
 induction l with
 | nil=>exact⟨rfl,rfl⟩
 | cons m l c =>
  have a:∀n m:Int,(((n,none):dp)==(m,none))=(n==m):=fun n m=>by
   by_cases h:n=m
   ·subst h;rw[beq_self_eq_true,beq_self_eq_true]
   ·rw[beq_eq_false_iff_ne.2 h,beq_eq_false_iff_ne.2 (fun e=>h (congrArg Prod.fst e))]
  have d:=a n m;have b:=a m n;simp only[ae2,afY,afX,d,b,c.1,c.2,and_self]
def M6 (n:Int) (a:List dp) (l:List MapEntry) (b:Nat->Value) (d:l.length=a.length) (f:a.all (fun k=>Hy k==false)=true) (h:∀j k,a[j]? = some k->∃e:MapEntry,l[j]? = some e∧e.key=lv k∧e.val=b j) :
  Instr.findNow (.int .i64) (.int .i64 n) l 0=some (if a.contains (n,none) then some (a.idxOf (n,none),b (a.idxOf (n,none))) else none):=by
 have c:=Ux f;generalize a.map (·.1)=q at c;subst c;have:=Ck n q l b 0 (by simpa using d) (fun j k g=>by
  obtain⟨e,i,m,o⟩:=h j (k,none) (by simp[g]);exact⟨e,i,m,o⟩)
 rw[(zL n q).1,(zL n q).2];simpa using this
def NX (z:D) (n:dp):∀(a:List dp) (b:List D),b.length=a.length->se z a b n=if a.contains n then b.getD (a.idxOf n) z else z
 | [],_,_=>by simp[se]
 | k::a,v::b,f=>by
  have g:=NX z n a b (by simpa using f)
  by_cases c:k=n
  ·subst c;simp[se,afX]
  ·have d:(n==k)=false:=by simp[Ne.symm c]
   have e:(k==n)=false:=by simp[c]
   simp[se,c,g,afX,d,e,Ne.symm c]
section
variable {P:Program} {T:Nat->Option Ty} {N:Nat} {M:Nat->Prop} {L:jM} {w0:World} {blk:Nat->Option (Nat×Nat)} {V:Nat->Nat->Prop} {t:Nat->D} {h:Nat->Option Row} {a:Act} {w:World} {e:Nat} {o:Oper}
def Uw {κ:Ty} (c:wE T κ=some true):∃a b α β,κ.ds=.struct [(a,0),(b,1)]∧T a=some α∧T b=some β∧α.ds=.int .i64∧β.ds=.int .i64∧κ.eqok=true:=by
 unfold wE at c;split at c
 ·cases c
 ·rename_i a b d;split at c
  ·rename_i α β e f;split at c
   ·rename_i g h;split at c
    ·rename_i i;exact⟨a,b,α,β,d,e,f,g,h,i⟩
    ·cases c
   ·cases c
  ·cases c
 ·cases c
def Uv {κ:Ty} (a:wE T κ=some false):κ.ds=.int .i64:=by
 unfold wE at a;split at a
 ·assumption
 ·split at a
  ·split at a
   ·split at a<;>cases a
   ·cases a
  ·cases a
 ·cases a
def Cw (i:iI P T) {f:Nat} {τ φ:Ty} {b:Bool} (j:T f=some τ) (a:Fl T τ=some (b,φ)):∃g h κ,P.underlying f=some (.map g h)∧T g=some κ∧wE T κ=some b∧T h=some φ:=by
 unfold Fl at a;split at a
 ·rename_i k el e;split at a
  ·rename_i κ p l m;split at a
   ·rename_i q n;simp only[ae5,Prod.mk.injEq]at a;obtain⟨rfl,rfl⟩:=a;obtain⟨d,o,c⟩:=under i j;rw[e]at c;refine⟨k,el,κ,?_,l,n,m⟩;cases d<;>simp[conv]at c;obtain⟨rfl,rfl⟩:=c;exact o
   ·cases a
  ·cases a
 ·cases a
def Inv.key (j:Inv N M L w0 blk V t h a w) {i:Operand} {n:dp} (b:Uu (Am.ev t i)=some n):a.eval i=lv n:=by
 have e:=j.ev i;generalize Am.ev t i=d at *;unfold Uu at b;split at b
 ·simp only[ae5]at b;subst b;exact mD e
 ·simp only[ae5]at b;subst b;have c:RP w (Own M h blk) (.agg _) (a.eval i):=e;generalize a.eval i=u at c;cases c with
  | agg xs k l h2 h3 =>
   match k,l with
   | [m,o],_ =>
    have f:=h2 0 _ rfl;have g:=h2 1 _ rfl;simp only[af0,af1]at f g;cases f;cases g;rfl
 ·cases b
def zq (k:iI P T) {e:Nat} {κ:Ty} (l:T e=some κ) (p:wE T κ=some true):∃(F:Array Field) (f1 f2:Field) (α β:Ty),P.underlying e=some (.struct F)∧F.toList=[f1,f2]∧f1.offset=0∧f2.offset=1∧T f1.type=some α∧T f2.type=some β∧α.ds=.int .i64∧β.ds=.int .i64∧P.stoodInHeld e=false∧f1.name ≠ "_"∧f2.name ≠ "_":=by
 obtain⟨a,b,α,β,i,q,r,s,t,u⟩:=Uw p;obtain⟨d,m,n⟩:=under k l;rw[i]at n;obtain⟨F,rfl,g⟩:=gY n;obtain⟨v,z,j⟩:=(k e κ l).eqs u;rw[m]at j;simp only at j;have c:F.toList.length=2:=by simpa using congrArg List.length g
 match h:F.toList,c with
 | [f1,f2],_ =>
  rw[h]at g;simp only[ae2,afI,afk,Prod.mk.injEq,and_true]at g;obtain⟨⟨rfl,w⟩,⟨rfl,x⟩⟩:=g;have o:∀f∈F.toList,f.name ≠ "_":=by
   intro f y;have:=Array.all_eq_true_iff_forall_mem.1 j f (by simpa using y);simpa using this
  exact⟨F,f1,f2,α,β,m,h,w,x,q,r,s,t,v,o f1 (by rw[h];simp),o f2 (by rw[h];simp)⟩
def UR (g:iI P T) {h:Nat} {κ:Ty} (l:T h=some κ) (m:wE T κ=some true) (a b c d:Int):(Op.equal h (.agg #[.int .i64 a,.int .i64 b]) (.agg #[.int .i64 c,.int .i64 d])).run P w=.ok (a==c&&b==d) w:=by
 obtain⟨F,f1,f2,α,β,n,i,o,p,q,r,s,t,u,v,y⟩:=zq g l m;refine run_equalIn_struct (us:=[.int .i64 a,.int .i64 b]) (vs:=[.int .i64 c,.int .i64 d]) 9998 n u ?_;refine zo (P:=P) (w:=w) g 9998 (M':=fun _=>False) F.toList 0 [.int .i64 a,.int .i64 b] [.int .i64 c,.int .i64 d] _ ?_ ?_ ?_ ?_ ?_
 ·rw[i];intro f k;simp only[ae3,af2,or_false]at k;rcases k with rfl|rfl
  ·exact v
  ·exact y
 ·rw[i];simp[lV,o,p,q,r,s,t,kindOk]
 ·simp[Z2,Z0]
 ·intro j x e
  match j,e with
  | 0,e=>simp only[List.getElem?_cons_zero,ae5]at e;subst e;exact⟨.int _ _,by simp⟩
  | 1,e=>simp only[List.getElem?_cons_succ,List.getElem?_cons_zero,ae5]at e;subst e;exact⟨.int _ _,by simp⟩
  | j+2,e=>simp at e
 ·intro j x e
  match j,e with
  | 0,e=>simp only[List.getElem?_cons_zero,ae5]at e;subst e;exact⟨.int _ _,by simp⟩
  | 1,e=>simp only[List.getElem?_cons_succ,List.getElem?_cons_zero,ae5]at e;subst e;exact⟨.int _ _,by simp⟩
  | j+2,e=>simp at e
def BR {k:dp} (h:(Hy k==true)=true):∃a b,k=(a,some b):=by
 obtain⟨a,x⟩:=k;cases x with
 | none=>simp[Hy]at h
 | some b=>exact⟨a,b,rfl⟩
def wW (r:iI P T) {s:Nat} {κ:Ty} (t:T s=some κ) (u:wE T κ=some true) {n:dp} (v:(Hy n==true)=true):∀(ks:List dp) (l:List MapEntry) (us:Nat->Value) (i:Nat),l.length=ks.length->ks.all (fun k=>Hy k==true)=true->(∀j k,ks[j]? = some k->∃e:MapEntry,l[j]? = some e∧e.key=lv k∧e.val=us j) ->
  (Instr.findAsking s (lv n) l i).run P w=.ok (if ks.contains n then some (i+ks.idxOf n,us (ks.idxOf n)) else none) w
 | [],[],_,_,_,_,_=>by simp[Instr.findAsking]
 | k::ks,e::l,us,i,y,o,h=>by
  simp only[List.all_cons,afx]at o;obtain⟨C,g,f,z⟩:=h 0 k rfl;simp only[List.getElem?_cons_zero,ae5]at g;subst g;have x:=wW r t u v ks l (fun j=>us (j+1)) (i+1) (by simpa using y) o.2 (fun j k A=>by simpa using h (j+1) k (by simpa using A));obtain⟨a,b,rfl⟩:=BR v;obtain⟨c,d,rfl⟩:=BR o.1;have p:=UR (P:=P) (w:=w) r t u a b c d;have q:(((a,some b):dp)==(c,some d))=(a==c&&b==d):=by
   rw[Bool.eq_iff_iff,beq_iff_eq,afx,beq_iff_eq,beq_iff_eq];constructor
   ·intro h;injection h with g f;injection f with f;exact⟨g,f⟩
   ·rintro⟨rfl,rfl⟩;rfl
  have m:(((c,some d):dp)==(a,some b))=(a==c&&b==d):=by
   rw[Bool.eq_iff_iff,beq_iff_eq,afx,beq_iff_eq,beq_iff_eq];constructor
   ·intro h;injection h with g f;injection f with f;exact⟨g.symm,f.symm⟩
   ·rintro⟨rfl,rfl⟩;rfl
  simp only[Instr.findAsking,lv,aft,f,p,Result.andThen_ok,afY,afX,q,m];cases D:(a==c&&b==d) with
  | true=>simp[z]
  | false =>
   simp only[afv,if_false,afZ,cond_false];simp only[lv]at x;rw[x];have B:i+1+List.idxOf ((a,some b):dp) ks=i+(List.idxOf ((a,some b):dp) ks+1):=by omega
   rw[B]
def Lb (e:iI P T) {h:Nat} {κ:Ty} (m:T h=some κ) (n:wE T κ=some true) (a b:Int) (em:Bool):(Instr.checkKey em 10000 h (.agg #[.int .i64 a,.int .i64 b])).run P w=.ok () w:=by
 obtain⟨F,f1,f2,α,β,o,p,q,r,i,j,k,l,B,s,t⟩:=zq e m n;obtain⟨d1,f,c⟩:=under e i;obtain⟨d2,g,d⟩:=under e j;rw[k]at c;rw[l]at d;have u:d1=.int .i64:=by cases d1<;>simp[conv]at c;subst c;rfl
 have v:d2=.int .i64:=by cases d2<;>simp[conv]at d;subst d;rfl
 subst u v;have x:(part f1.type #[Value.int .i64 a,.int .i64 b] f1.offset).run P w=.ok (.int .i64 a) w:=by
  simp[part,aft,mu (e _ _ i),k,Ds.tw,q,Result.andThen]
 have y:(part f2.type #[Value.int .i64 a,.int .i64 b] f2.offset).run P w=.ok (.int .i64 b) w:=by
  simp[part,aft,mu (e _ _ j),l,Ds.tw,r,Result.andThen]
 have z:=MapKept.run_checkKey (w:=w) f (show MapKept.IsKey (.int .i64) (.int .i64 a) from rfl) em 9998;have A:=MapKept.run_checkKey (w:=w) g (show MapKept.IsKey (.int .i64) (.int .i64 b) from rfl) em 9998;rw[Instr.checkKey];simp only[aft,run_underlying o,Result.andThen_ok];rw[<- Array.forIn_toList,p];simp[List.forIn_cons,aft,s,t,x,y,z,A,Result.andThen]
def O3 (i:iI P T) {q:Nat} {κ:Ty} {b:Bool} (m:T q=some κ) (o:wE T κ=some b) {n:dp} {a:List dp} (f:rm b n a=true) {l:List MapEntry} {us:Nat->Value} (r:l.length=a.length) (h:∀j k,a[j]? = some k->∃e:MapEntry,l[j]? = some e∧e.key=lv k∧e.val=us j) :
  (∀em,(Instr.checkKey em 10000 q (lv n)).run P w=.ok () w)∧(Instr.findKey q (lv n) l).run P w=.ok (if a.contains n then some (a.idxOf n,us (a.idxOf n)) else none) w∧(Instr.keyThatStays (lv n) (lv n)).run P w=.ok (lv n) w:=by
 simp only[rm,afx]at f;cases b with
 | false =>
  obtain⟨n,x⟩:=n;cases x with
  | some y=>simp[Hy]at f
  | none =>
   obtain⟨d,p,s⟩:=under i m;rw[Uv o]at s;have t:d=.int .i64:=by cases d<;>simp[conv]at s;subst s;rfl
   subst t;have c:MapKept.IsKey (.int .i64) (.int .i64 n):=rfl;exact⟨fun em=>MapKept.run_checkKey (w:=w) p c em 9999,MapKept.run_findKey (w:=w) p (M6 n a l us r f.2 h),MapKept.run_keyThatStays (P:=P) (w:=w) c⟩
 | true =>
  obtain⟨F,f1,f2,α,β,p,_⟩:=zq i m o;have g:=wW (P:=P) (w:=w) i m o f.1 a l us 0 r f.2 h;obtain⟨x,y,rfl⟩:=BR f.1;refine⟨fun em=>Lb i m o x y em,?_,?_⟩
  ·rw[afH]at g;unfold Instr.findKey;simp only[aft,run_underlying p,Result.andThen_ok];cases l with
   | nil =>
    cases a with
    | nil=>simp[Instr.findNow]
    | cons _ _=>simp at r
   | cons e l =>
    have:Instr.findNow (.struct F) (lv (x,some y)) (e::l) 0=none:=by simp[Instr.findNow,Instr.sameNow]
    rw[this];exact g
  ·simp[Instr.keyThatStays,lv,Instr.sameBits]
def zeroV (o:iI P T) {f:Nat} {φ:Ty} {z:D} (p:T f=some φ) (a:j0 φ (φ.zero.map oF)=some z) (q:(φ.zero.map oF).all bz=true) (w:World) (M:Nat->Prop):∃b,(zeroValue f).run P w=.ok b w∧RP w M z b:=by
 have l:=o f φ p;obtain⟨d,i,b,t,u,m,v,y,n,g⟩:=l.get;have h:=l.agg;rw[m]at h;simp only[Option.map_some,n,ae5]at h;refine⟨b,by simp[zeroValue,typeInfo,m,n],?_⟩;have k:=fun j x c=>rK φ.zero q (w:=w) (M:=M) j x c;unfold j0 at a;rw[<- h]at a;cases b with
 | agg cs =>
  simp only[QZ,if_true,ae5]at a;subst a;simp only[Value.cells]at g;subst g;refine .agg _ φ.zero (by simp) (fun j x c =>?_) (fun x r =>?_)
  ·have:=(k j x c).2;simpa [ae1,afz] using this
  ·obtain⟨j,c⟩:=afi r;exact (k j x c).1
 | _ =>
  simp only[QZ,afv,if_false]at a;split at a
  ·rename_i d s;simp only[ae5]at a;subst a;have e:=(k 0 d (by rw[s];rfl)).2;rw[<- g]at e;simpa [Value.cells] using e
  ·cases a
def Inv.Tc (C:Inv N M L w0 blk V t h a w) {m:D} {u:Value} {l:List dp} {vs:List D} (i:mapOf h m=some (l,vs)) (y:RT w (Own M h blk) h blk V m u) :
  vs.length=l.length∧∃(c:Array MapEntry) (f:Nat->Value),c.size=l.length∧((u=.map none∧c = #[])∨∃b d,u=.map (some b)∧w.heap[b]? = some (.map c d))∧(∀j k,l[j]? = some k->∃e:MapEntry,c[j]? = some e∧e.key=lv k∧e.val=f j)∧∀j x,vs[j]? = some x->RP w (Own M h blk) x (f j):=by
 cases m with
 | mp x v =>
  simp only[mapOf]at i;obtain⟨g,r,z,A,B,n,Q,rfl,E,c,d,F,G,_,f,H,o⟩:=C.N1 i y;exact⟨E,c,f,G,.inr ⟨g.1,d,rfl,F⟩,H,o⟩
 | mpc p q =>
  simp only[mapOf,ae5,Prod.mk.injEq]at i;obtain⟨rfl,rfl⟩:=i;have s:RP w (Own M h blk) (.mpc p q) u:=y;cases s with
  | mpc _ _ I f z A B n =>
   refine⟨z,?_⟩;cases I with
   | none =>
    have:=A rfl;subst this;exact⟨#[],f,rfl,.inl ⟨rfl,rfl⟩,fun j k J=>by simp at J,n⟩
   | some b =>
    obtain⟨R,S,c,d,K,O,P⟩:=B b rfl;exact⟨c,f,O,.inr ⟨b,d,rfl,K⟩,P,n⟩
 | _=>simp[mapOf]at i
def Ke (C:iI P T) (q:Inv N M L w0 blk V t h a w) {c d:Nat} {τ:Ty} {E:cd} (r:o.op=.makeMap c none) (p:o.dst=some d) (u:js N V d e) (D:T c=some τ) (b:nO T c τ e d=some E):dZ P o a w (bn N M L w0 V t h a e o.dst E):=by
 unfold nO at b;split at b
 ·split at b
  ·cases b
  rename_i g;simp only[ae5]at b;subst b;have f:=(Below.refl w.heap.size w).alloc (aeX _) (.map #[] 0);have i:=q.DU (w':=w.alloc (.map #[] 0)) (h1:=h) (old:=none) (d:=d) (e:=e) (r0:=⟨e,c,[.mpc [] []],false,true,true⟩) (go:=some (w.heap.size,0)) f.os f.tape f.output f.size (fun k z _=>Below.heap_alloc w _ k z) (fun y A=>by cases A) rfl u
   ⟨.inl (aeX _),by
    refine .inl ?_;exact⟨[],[],rfl,rfl,fun _=>⟨#[],0,heap_alloc_new w _,rfl,MapKept.stamped_empty 0,fun _=>undef,fun j k l=>by simp at l,fun j x l=>by simp at l⟩,fun B=>absurd B g⟩⟩ rfl rfl (fun _ _ _ j x s n h=>by cases j<;>simp at h)
  refine aN (v := .map (some w.heap.size)) (w':=w.alloc (.map #[] 0)) ?_ ⟨bY blk d (some (w.heap.size,0)),?_,?_⟩
  ·simp[execOp,r,Instr.makeMap,Result.andThen]
  ·refine i.weaken fun x v m =>?_;rcases m with m|⟨rfl,rfl⟩
   ·exact .inl m
   ·exact .inr ⟨p,rfl⟩
  ·exact⟨.inr ⟨p,rfl⟩,fun _ _ _=>⟨(w.heap.size,0),aA _ _ _,rfl⟩⟩
 ·cases b
def MR (R:iI P T) (O:Inv N M L w0 blk V t h a w) {ty:Nat} {m i:Operand} {s:Bool} {τ:Ty} {E:cd} (S:o.op=.lookup ty m i s) (hτ:T ty=some τ) (g:gT T τ h (ev t m) (ev t i) s=some E):dZ P o a w (bn N M L w0 V t h a e o.dst E):=by
 unfold gT at g;split at g
 ·rename_i b φ d U n W X hi;split at g
  ·rename_i z hz;split at g
   ·rename_i u;obtain⟨Y,Z⟩:=u;simp only[ae5]at g;subst g;obtain⟨kt,et,κ,v,hκ,aa,hφ⟩:=Cw R hτ W;obtain⟨p,q,C,D,F,hk,hv⟩:=O.Tc X (O.ev m);have y:a.eval i=lv n:=O.key hi;obtain⟨zv,G,ab⟩:=zeroV R hφ hz Z w (Own M h blk);obtain⟨H,c,_⟩:=O3 (P:=P) (w:=w) R hκ aa Y (l:=q.toList) (us:=C) (by simpa using D) (fun j k f=>by simpa using hk j k f);have A:=H q.isEmpty;have hl:=NX (iQ z) n d U p;have I:(execOp a.eval o).run P w=.ok (.value (if s then .tuple #[if d.contains n then C (d.idxOf n) else zv,.bool (d.contains n)] else if d.contains n then C (d.idxOf n) else zv)) w:=by
     rcases F with⟨ad,rfl⟩|⟨b,ae,J,B⟩
     ·have ag:d=[]:=by simpa using D.symm
      subst ag;simp only[List.contains_nil,afv,if_false]at c ⊢;cases s<;>simp[execOp,S,Instr.lookup,run_underlying v,ad,y,A,c,G,Result.andThen]<;>simp_all
     ·have K:=MapKept.run_getObj_map (P:=P) B;cases Q:d.contains n with
      | true =>
       rw[Q]at c;simp only[if_true]at c;cases s<;>simp[execOp,S,Instr.lookup,run_underlying v,J,y,K,A,c,Result.andThen]
      | false =>
       rw[Q]at c;simp only[afv,if_false]at c;cases s<;>simp[execOp,S,Instr.lookup,run_underlying v,J,y,K,A,c,G,Result.andThen]
    have r:RP w (Own M h blk) (se (iQ z) d U n) (if d.contains n then C (d.idxOf n) else zv):=by
     rw[hl];split
     ·rename_i Q;have ah:d.idxOf n<U.length:=by rw[p];exact af4 (by simpa using Q)
      refine hv _ _ ?_;simp[afz,ah]
     ·exact ab.iQ
    refine aN I (bn.dO O ?_);cases s with
    | false=>exact bQ r
    | true =>
     refine bQ (.tup _ [_,_] rfl fun j x f =>?_)
     match j,f with
     | 0,f=>simp only[List.getElem?_cons_zero,ae5]at f;subst f;exact r
     | 1,f=>simp only[List.getElem?_cons_succ,List.getElem?_cons_zero,ae5]at f;subst f;exact .bool _
     | j+2,f=>simp at f
   ·cases g
  ·cases g
 ·cases g
def Inv.yh (l:Inv N M L w0 blk V t h a w) {d e:D} {f:List Nat} {u:Value} {g:Nat->Prop} (c:yh h d=some (e,f)) (k:pT M h blk f g) (i:RT w (Own M h blk) h blk V d u):RP w g e u:=by
 have m:∀b,b<w.heap.size->¬Own M h blk b->b<w.heap.size∧¬g b∧w.heap[b]? = w.heap[b]?:=fun b j h2=>⟨j,fun n=>h2 (k.le b n),rfl⟩;have one:∀d,Am.yh h d=(match Am.dQ h d with|some (e,f)=>some (canon e,f)|none=>none)->Am.yh h d=some (e,f)->RT w (Own M h blk) h blk V d u->RP w g e u:=by
  intro d o c i;rw[o]at c;split at c
  ·rename_i d1 p j;simp only[ae5,Prod.mk.injEq]at c;obtain⟨rfl,rfl⟩:=c;exact (l.dQ j k i).1.canon
  ·cases c
 cases d with
 | agg xs =>
  simp only[Am.yh,ae5,Prod.mk.injEq]at c;obtain⟨rfl,rfl⟩:=c;exact (RP.keep m (show RP w (Own M h blk) (.agg xs) u from i)).iQ
 | _=>exact one _ rfl c i
def Xx (a:List dp) (b:List D) (n:dp) (d:D) (h:b.length=a.length):(Db a b n d).length=(zl a n).length:=by
 unfold Db zl;split<;>simp[h]
def vS (hT:iI P T) (Q:Inv N M L w0 blk V t h a w) {ty:Nat} {m i x:Operand} {τ:Ty} {E:cd} (O:o.op=.mapUpdate ty m i x∨o.op=.insert ty m i x) (hτ:T ty=some τ) (I:dR T τ h (ev t m) (ev t i) (ev t x)=some E):dZ P o a w (bn N M L w0 V t h a e o.dst E):=by
 have hm:=Q.ev m;unfold dR at I;split at I
 ·rename_i b φ y v n d fr az aA hi Z;rw[aA]at hm;split at I
  ·rename_i r hr;split at I
   ·rename_i B vs aa;split at I
    ·rename_i R;obtain⟨aB,ab,aC⟩:=R;simp only[ae5]at I;subst I;obtain⟨kt,et,κ,ad,hκ,aD,hφ⟩:=Cw hT hτ az;have ae:a.eval i=lv n:=Q.key hi;have ag:=Q.freeze fr;have ah:=Q.yh Z (Q.fF fr) (Q.ev x);obtain⟨g,r',h1,h2,h3,h4,h5,ai,_⟩:=Q.N1 aa hm;rw[hr]at h1;simp only[ae5]at h1;subst h1;have S:aW h (jw h fr) y=some r:=by rw[AX aC];exact hr
     have C:=ag.rowIs S h5;unfold dV at C;rw[h3]at C;rcases C with C|⟨C,_⟩;rotate_left
     ·rw[h4]at C;have:=C _ (afj.2 rfl);cases this
     obtain⟨aK,aL,i1,aj,aE,_⟩:=C;have ak:r.ty<900000:=by
      obtain⟨r3,z1,_,_,_,z5⟩:=Fh aa;rw[hr]at z1;cases z1;exact z5
     obtain⟨G,F,q,U,al,us,hk,hv⟩:=aE ak;rw[h4]at i1;simp only[afk,D.mpc.injEq,and_true]at i1;obtain⟨rfl,rfl⟩:=i1;obtain⟨an,H,aF⟩:=O3 (P:=P) (w:=w) hT hκ aD aB (l:=G.toList) (us:=us) (by simpa using U) (fun j k W=>by simpa using hk j k W);have ao:=an false;have aq:=MapKept.run_getObj_map (P:=P) q;have aM:g.1<w.heap.size:=(af5.1 q).1;have key:∃(c:Array MapEntry) (f:Nat) (K:Nat->Value),(execOp a.eval o).run P w=.ok .skip { w with heap:=w.heap.setIfInBounds g.1 (.map c f) }∧c.size=(zl B n).length∧MapKept.Stamped c f∧(∀j k,(zl B n)[j]? = some k->∃e:MapEntry,c[j]? = some e∧e.key=lv k∧e.val=K j)∧∀j z,(Db B vs n d)[j]? = some z->RP w (Own M (aW h (jw h fr)) blk) z (K j):=by
      cases J:B.contains n with
      | true =>
       rw[J]at H;simp only[if_true]at H;have W:B.idxOf n<B.length:=af4 (by simpa using J);have ar:B[B.idxOf n]? = some n:=by rw[ae9 W];simp
       obtain⟨e0,q1,q2,q3⟩:=hk _ _ ar;have aG:(((G[B.idxOf n]?).map (·.key)).getD (lv n))=lv n:=by rw[q1];exact q2
       refine⟨G.modify (B.idxOf n) (fun e=>{ e with key:=lv n,val:=a.eval x }),F,fun j=>if j=B.idxOf n then a.eval x else us j,?_,?_,?_,fun j k u =>?_,fun j z p =>?_⟩
       ·have hset:=fun ob=>MapKept.run_setObj_map (P:=P) ob q;rcases O with O|O<;>simp[execOp,O,Instr.mapUpdate,run_underlying ad,ai,ae,aq,ao,H,aG,aF,hset,Result.andThen]
       ·simp only[Array.size_modify,zl,J,if_true];exact U
       ·exact MapKept.stamped_modify al _ _ (fun e _=>rfl) (fun e _ he=>by rw[q1]at he;cases he;exact q2.symm)
       ·simp only[zl,J,if_true]at u;obtain⟨e1,Y,p2,p3⟩:=hk j k u
        by_cases A:B.idxOf n=j
        ·subst A;rw[ar]at u;simp only[ae5]at u;subst u;exact⟨{ e1 with key:=lv n,val:=a.eval x },by simp[ae6,Y],rfl,by simp⟩
        ·exact⟨e1,by simp[ae6,A,Y],p2,by rw[p3];exact (if_neg (Ne.symm A)).symm⟩
       ·simp only[Db,J,if_true]at p;rw[List.getElem?_set]at p
        by_cases A:B.idxOf n=j
        ·subst A;simp only[if_true]at p;split at p
         ·simp only[ae5]at p;subst p;simp only[if_true];exact ah
         ·cases p
        ·rw[if_neg A]at p;simp only[if_neg (Ne.symm A)];exact hv j z p
      | false =>
       rw[J]at H;simp only[afv,if_false]at H;refine⟨G.push { key:=lv n,val:=a.eval x,born:=F },F+1,fun j=>if j<B.length then us j else a.eval x,?_,?_,?_,fun j k u =>?_,fun j z p =>?_⟩
       ·have hset:=fun ob=>MapKept.run_setObj_map (P:=P) ob q;rcases O with O|O<;>simp[execOp,O,Instr.mapUpdate,run_underlying ad,ai,ae,aq,ao,H,hset,Result.andThen]
       ·simp only[Array.size_push,zl,J,afv,if_false,af6,List.length_cons,List.length_nil];omega
       ·refine MapKept.stamped_push al fun x hx he =>?_;obtain⟨j,W⟩:=afi hx;have aH:j<B.length:=by have:=(afp.1 W).1;simp at this;omega
        obtain⟨e1,Y,p2,_⟩:=hk j _ (ae9 aH);rw[afK,Y]at W;cases W;have:B[j]=n:=WZ (p2.symm.trans he);rw[<- this]at J;simp[ae8]at J
       ·simp only[zl,J,afv,if_false]at u
        by_cases A:j<B.length
        ·rw[afQ A]at u;obtain⟨e1,Y,p2,p3⟩:=hk j k u;exact⟨e1,by rw[Array.getElem?_push_lt (by omega)];rw[<- Y];exact (af7 (by omega)).symm,p2,by rw[p3];exact (if_pos A).symm⟩
        ·rw[afT (by omega)]at u;have X:j=B.length:=by
          have:=(afp.1 u).1;simp at this;omega
         subst X;simp only[af8,List.getElem?_cons_zero,ae5]at u;subst u;exact⟨_,by rw[<- U];exact Array.getElem?_push_size,rfl,by simp⟩
       ·simp only[Db,J,afv,if_false]at p
        by_cases A:j<B.length
        ·rw[afQ (by omega)]at p;simp only[if_pos A];exact hv j z p
        ·rw[afT (by omega)]at p;have X:j=vs.length:=by
          have:=(afp.1 p).1;simp at this;omega
         subst X;simp only[af8,List.getElem?_cons_zero,ae5]at p;subst p;simp only[if_neg A];exact ah
     obtain⟨c,f,K,au,av,aw,aI,aJ⟩:=key;have hset:=MapKept.heap_set (o' := .map c f) q;have ax:(w.heap.setIfInBounds g.1 (.map c f)).size=w.heap.size:=by simp
     have ay:=ag.kg (hph:=fun _ _ _ j x s n h=>by cases j<;>simp at h) (r0:=⟨r.v,r.ty,[.mpc (zl B n) (Db B vs n d)],false,true,true⟩) (w':={ w with heap:=w.heap.setIfInBounds g.1 (.map c f) }) S ab rfl rfl rfl rfl (by show w.heap.size<=(w.heap.setIfInBounds g.1 _).size;rw[ax];exact aeX _)
      (fun b _ hb=>hset.2 b (hb g h5)) (by
       rw[h5];refine⟨by simp[World.shape?,hset.1,q],?_⟩;refine .inl ?_;refine⟨_,_,rfl,Xx B vs n d aj,fun _=>⟨c,f,hset.1,av,aw,K,aI,fun j z p=>(aJ j z p).keep fun b q1 q2=>⟨by show b<(w.heap.setIfInBounds g.1 _).size;rw[ax];exact q1,q2,hset.2 b (fun e=>q2 (.inr ⟨y,r,g,S,ab,h5,e.symm⟩))⟩⟩,fun hq=>absurd hq (Nat.not_le.2 ak)⟩) (fun hh=>by cases hh)
     refine .inr (.inl ⟨_,au,blk,?_,trivial⟩);rw[gH];exact ay.weaken fun _ _ h =>.inl h
    ·cases I
   ·cases I
  ·cases I
 ·cases I
end
section
variable {P:Program} {T:Nat->Option Ty} {N:Nat} {M:Nat->Prop} {L:jM} {w0:World} {blk:Nat->Option (Nat×Nat)} {V:Nat->Nat->Prop} {t:Nat->D} {h:Nat->Option Row} {a:Act} {w:World} {e:Nat} {o:Oper} {Γ:Env}
def ma {α:Type} {c:Array α} {l:List α} (h:c.toList=l):c=l.toArray:=by rw[<- h]
def Td {β:Type} {f:Operand->β} {l:List Operand} {p q:β} (h:l.map f=[p,q]):∃s x,l=[s,x]∧f s=p∧f x=q:=by
 match l,h with
 | [s,x],h=>simp only[ae2,afI,afk,and_true]at h;exact⟨s,x,rfl,h.1,h.2⟩
def YO {β:Type} {f:Operand->β} {l:List Operand} {p:β} (h:l.map f=[p]):∃s,l=[s]∧f s=p:=by
 match l,h with
 | [s],h=>simp only[ae2,afI,afk,and_true]at h;exact⟨s,rfl,h⟩
def map_cons {β:Type} {f:Operand->β} {l:List Operand} {p:β} {r:List β} (h:l.map f=p::r):∃s a,l=s::a∧f s=p∧a.map f=r:=by
 match l,h with
 | s::a,h=>simp only[ae2,afk]at h;exact⟨s,a,rfl,h.1,h.2⟩
def Ka (hT:iI P T) (u:Inv N M L w0 blk V t h a w) {c:Call} {b:Builtin} {E:cd} (U:o.op=.call c) (W:c.callee=.builtin b) (hV:∀d,o.dst=some d->js N V d e)
  (f:dL T h e o.dst b c.argTypes.toList (c.args.toList.map (ev t))=some E):dZ P o a w (bn N M L w0 V t h a e o.dst E):=by
 unfold dL at f;split at f
 ·rename_i ty aq x F g;obtain⟨s,O,rfl⟩:=YO g;have Q:=ma O;have X:=ma F;split at f
  ·rename_i ab;split at f
   ·rename_i τ n Y hn;have hp:=u.ev s;obtain⟨d,G,i⟩:=under hT Y;obtain⟨l1,l2⟩:=RT.aed u hn ab hp;have B:∀v,(Builtin.len_ c.argTypes o.type #[a.eval s]).run P w=.ok v w->(execOp a.eval o).run P w=.ok (.value v) w:=by
     intro v Z;simp[execOp,U,resolve,W,Q,invoke,builtin,Z]
    have D:c.argTypes[0]? = some ty:=by rw[X];rfl
    split at f
    ·rename_i z C H;rw[H]at l1;obtain⟨I,J⟩:=l1 _ rfl;rw[C]at i;have:=tj i;subst this;simp only[ae5]at f;subst f;refine aN (B (.int .i64 n) ?_) (bn.dO u (bQ (.int _ _)));simp[Builtin.len_,D,run_underlying G,I,goInt,J]
    ·rename_i el z1 z2 z3 z4 C H;obtain⟨A,k,I⟩:=l2 (by rw[H];intro s h;cases h);rw[C]at i;have:=fS i;subst this;simp only[ae5]at f;subst f;refine aN (B (.int .i64 n) ?_) (bn.dO u (bQ (.int _ _)));simp[Builtin.len_,D,run_underlying G,I,goInt]
    ·rename_i el z1 z2 z3 z4 z5 C H;obtain⟨A,k,I⟩:=l2 (by rw[H];intro s h;cases h);rw[C]at i;have:=fS i;subst this;simp only[ae5]at f;subst f;refine aN (B (.int .i64 n) ?_) (bn.dO u (bQ (.int _ _)));simp[Builtin.len_,D,run_underlying G,I,goInt]
    ·cases f
   ·rename_i τ Y hn;split at f
    ·rename_i k el ks ar C ad;obtain⟨d,G,i⟩:=under hT Y;rw[C]at i;have ae:d=.map k el:=by
      cases d<;>simp[conv]at i;obtain⟨rfl,rfl⟩:=i;rfl
     subst ae;simp only[ae5]at f;subst f;obtain⟨an,ao,us,J,aa,hk,hv⟩:=u.Tc ad (u.ev s);have D:c.argTypes[0]? = some ty:=by rw[X];rfl
     refine aN (v := .int .i64 (ks.length:Nat)) (w':=w) ?_ (bn.dO u (bQ (.int _ _)));rcases aa with⟨ag,rfl⟩|⟨b,ah,ai,R⟩
     ·have aj:ks.length=0:=by simpa using J.symm
      simp[execOp,U,resolve,W,Q,invoke,builtin,Builtin.len_,D,run_underlying G,ag,goInt,aj]
     ·have ak:=MapKept.run_getObj_map (P:=P) R;simp[execOp,U,resolve,W,Q,invoke,builtin,Builtin.len_,D,run_underlying G,ai,ak,goInt,J,Result.andThen]
    ·cases f
   ·cases f
  ·cases f
 ·rename_i ty au p q F g;obtain⟨s,x,O,rfl,rfl⟩:=Td g;split at f
  ·rename_i al;subst al;split at f
   ·rename_i τ d Y G;exact MP hT u U W (ma O) (ma F) G (hV d G) Y f
   ·cases f
  ·cases f
 ·rename_i k x r g;obtain⟨s,l,O,h1,h2⟩:=map_cons g;split at f
  ·rename_i z H;simp only[ae5]at f;subst f;have I:a.eval s=.int k x:=by have:=u.ev s;rw[h1]at this;exact mD this
   have Z:=O4 (P:=P) (w:=w) (M:=M) (blk:=blk) (V:=V) (h:=h) k r (l.map a.eval) x z H (by rw[<- h2];simp) (fun j d K=>by
    rw[<- h2,aeU]at K;cases S:l[j]? with
    | none=>simp[S]at K
    | some y =>
     simp only[S,Option.map_some,ae5]at K;subst K;have:(l.map a.eval).getD j undef=a.eval y:=by simp[List.getD,S]
     rw[this];exact u.ev y)
   refine aN (v := .int k z) (w':=w) ?_ (bn.dO u (bQ (.int _ _)));have m:c.args.map a.eval=(Value.int k x::l.map a.eval).toArray:=by rw[ma O];simp[I]
   simp[execOp,U,resolve,W,m,invoke,builtin,Builtin.max_,Z]
  ·cases f
 ·rename_i k x r g;obtain⟨s,l,O,h1,h2⟩:=map_cons g;split at f
  ·rename_i z H;simp only[ae5]at f;subst f;have I:a.eval s=.int k x:=by have:=u.ev s;rw[h1]at this;exact mD this
   have Z:=O5 (P:=P) (w:=w) (M:=M) (blk:=blk) (V:=V) (h:=h) k r (l.map a.eval) x z H (by rw[<- h2];simp) (fun j d K=>by
    rw[<- h2,aeU]at K;cases S:l[j]? with
    | none=>simp[S]at K
    | some y =>
     simp only[S,Option.map_some,ae5]at K;subst K;have:(l.map a.eval).getD j undef=a.eval y:=by simp[List.getD,S]
     rw[this];exact u.ev y)
   refine aN (v := .int k z) (w':=w) ?_ (bn.dO u (bQ (.int _ _)));have m:c.args.map a.eval=(Value.int k x::l.map a.eval).toArray:=by rw[ma O];simp[I]
   simp[execOp,U,resolve,W,m,invoke,builtin,Builtin.min_,Z]
  ·cases f
 ·cases f
def VB {h:Nat->Option Row} {d:D} {u:Value} {b:Nat->Prop} (a:sh d=true) (c:RT w b h blk V d u):RC w b h blk V d u:=by
 cases d with
 | buf _ _ _ _ _=>simp[sh]at a
 | clo _ _ _=>simp[sh]at a
 | und=>simp[sh]at a
 | skp=>simp[sh]at a
 | box1 _ _ _ _ _=>simp[sh]at a
 | _=>exact c
def G5 (d:Inv N M L w0 blk V t h a w) {f:Nat} {first caps:Array Operand} (i:o.op=.makeFunc (.func f) first caps) (g:(first.toList.map (ev t)++caps.toList.map (ev t)).all sh=true) :
  dZ P o a w (bn N M L w0 V t h a e o.dst ⟨.clo f first.size (first.toList.map (ev t)++caps.toList.map (ev t)),[]⟩):=by
 refine aN (v := .func (.func f) (first.map a.eval) (caps.map a.eval)) (w':=w) ?_ (bn.dO d ?_)
 ·simp[execOp,i,Instr.makeFunc]
 ·refine⟨first.toList.map a.eval++caps.toList.map a.eval,?_,by simp,fun j x b =>?_⟩
  ·rw[List.take_left' (by simp),List.drop_left' (by simp),<- afN,<- afN]
  rw[ae7]at g;have c:=g x (afo b);rw[<- agn,aeU,aeV]at b;obtain⟨q,k,rfl⟩:=b;have:(first.toList.map a.eval++caps.toList.map a.eval).getD j undef=a.eval q:=by rw[<- agn];simp only[afz,aeU,k];rfl
  rw[this];exact VB c (d.ev q)
def Uh (u:iI P T) (G:bG P Γ) (r:Inv N M L w0 blk V t h a w) (B:∀d,o.dst=some d->js N V d e) (F:∀x v,V x v->x<N∨2*PK<=x) {E:cd} (g:rL T Γ e o (ev t) h=some E):dZ P o a w (bn N M L w0 V t h a e o.dst E):=by
 unfold rL at g;split at g
 ·rename_i x j;simp only[ae5]at g;subst g;exact Im r (.inl j)
 ·rename_i x j;exact Wk r j B g
 ·rename_i c x y j;split at g
  ·rename_i A;simp only[ae5]at g;subst g;exact Io (b:=true) r j A
  ·rename_i A;simp only[ae5]at g;subst g;exact Io (b:=false) r j A
  ·cases g
 ·rename_i z j;split at g
  ·rename_i τ d q s;split at g
   ·rename_i H;simp only[ae5]at g;subst g;exact Qd (hint:=Γ.hint) u r j s q (B d s) H
   ·cases g
  ·cases g
 ·rename_i z x j;split at g
  ·rename_i d R S s A;split at g
   ·simp only[ae5]at g;subst g;exact Wm r j s (B d s) A
   ·cases g
  ·cases g
 ·rename_i z p j;split at g
  ·rename_i τ q;exact YB u r j q g
  ·cases g
 ·rename_i z p x j;split at g
  ·rename_i τ q;exact Wv u r F j q g
  ·cases g
 ·rename_i x j;exact Ws r j g
 ·rename_i z x i j;split at g
  ·rename_i τ q;exact Ek u r j q g
  ·cases g
 ·rename_i z x i j;split at g
  ·rename_i τ q;exact Qg u r j q g
  ·cases g
 ·rename_i z x i j;split at g
  ·rename_i τ q;exact El u r j q g
  ·cases g
 ·rename_i z x i j;split at g
  ·rename_i τ q;exact Qh u r j q g
  ·cases g
 ·rename_i z x U W X j;split at g
  ·rename_i τ q;exact Qj u r j q g
  ·cases g
 ·rename_i z parts j;split at g
  ·rename_i τ q;exact Wl u r j q g
  ·cases g
 ·rename_i z I parts j;split at g
  ·rename_i τ d q s;exact CY u r j s (B d s) q g
  ·cases g
 ·rename_i z l c j;split at g
  ·rename_i τ d q s;exact Uc u r j s (B d s) q g
  ·cases g
 ·rename_i J z x y K j;split at g
  ·rename_i d s;simp only[ae5]at g;subst g;exact Qe u r j s
  ·cases g
 ·rename_i J z x j;split at g
  ·rename_i d s;simp only[ae5]at g;subst g;exact Uf r j s
  ·cases g
 ·rename_i src O x j;split at g
  ·rename_i τ k n σ q Q C;split at g
   ·rename_i Y D;simp only[ae5]at g;subst g;exact Kb u r j q Q D C
   ·cases g
  ·cases g
 ·rename_i Z first caps j
  split at g
  ·split at g
   ·rename_i A;simp only[ae5]at g;subst g;exact G5 r j A
   ·cases g
  ·cases g
 ·rename_i z j;split at g
  ·rename_i τ d q s;exact Ke u r j s (B d s) q g
  ·cases g
 ·rename_i z m i ok j;split at g
  ·rename_i τ q;exact MR u r j q g
  ·cases g
 ·rename_i z m i x j;split at g
  ·rename_i τ q;exact vS u r (.inr j) q g
  ·cases g
 ·rename_i z m i x j;split at g
  ·rename_i τ q;exact vS u r (.inl j) q g
  ·cases g
 ·rename_i x i j;split at g
  ·rename_i xs C;split at g
   ·rename_i d s;simp only[ae5]at g;subst g;exact Kc r j C s
   ·cases g
  ·cases g
 ·rename_i c j;split at g
  ·rename_i f A;exact Ua G r j A B F g
  ·rename_i b A;exact Ka u r j A B g
  ·cases g
 ·cases g
end
section
variable {T:Nat->Option Ty} {h h':Nat->Option Row} {e:Nat} {o:Oper} {Γ:Env}
def cU {x v:Nat} (a:h x=h' x):live h x v=live h' x v:=by simp[live,a]
def jZ {x v:Nat} (a:h x=h' x):oS h x v=oS h' x v:=by simp[oS,a]
def oT {x v:Nat} (a:h x=h' x):kR h x v=kR h' x v:=by simp[kR,a]
def NU {d:D} {x v:Nat} (a:h x=h' x):Ae d h x v=Ae d h' x v:=by unfold Ae zd;rw[cU a,a]
def mH {d:D} (a:∀x∈nm d,h x=h' x):dQ h d=dQ h' d:=by
 cases d<;>try rfl
 rename_i x v s o n;simp only[dQ];rw[cU (a x (by simp[nm,iK]))]
def G4 {d:D} (a:∀x∈nm d,h x=h' x):content h d=content h' d:=by
 cases d<;>try rfl
 rename_i x v s o n;simp only[content];rw[cU (a x (by simp[nm,iK]))]
def uv {d:D} (a:∀x∈nm d,h x=h' x):fC h d=fC h' d:=by
 cases d<;>first|rfl|(simp only[fC];rw[mH a])
def vM {d:D} (a:∀x∈iK d,h x=h' x):bH h d=bH h' d:=by
 cases d<;>try rfl
 ·simp only[bH];rw[cU (a _ (by simp[iK]))]
 ·simp only[bH];rw[mH (d := .buf _ _ _ _ _) a]
 ·simp only[bH];rw[mH (d := .buf _ _ _ _ _) a]
 ·simp only[bH];rw[oT (a _ (by simp[iK]))]
 ·rename_i x v y;simp only[bH];rw[cU (a x (by simp[iK]))];have c:∀b,kR h y b=kR h' y b:=fun b=>oT (a y (by simp[iK]));simp only[c]
def va:∀ {a:List D},(∀d∈a,∀x∈iK d,h x=h' x)->dA h a=dA h' a
 | [],_=>rfl
 | d::a,hx=>by
  simp only[dA];rw[vM (hx d (by simp)),va (fun c b=>hx c (by simp[b]))]
def vL (h:Nat->Option Row) {d:D} (a:∀f b c,d ≠ .clo f b c):cG h d=bH h d:=by cases d<;>first|rfl|exact absurd rfl (a _ _ _)
def Th {d:D} (a:∀f b c,d ≠ .clo f b c):nm d=iK d:=by cases d<;>first|rfl|exact absurd rfl (a _ _ _)
def V9 (d:D):(∃f a b,d=.clo f a b)∨∀f a b,d ≠ .clo f a b:=by
 cases d<;>first|exact .inl ⟨_,_,_,rfl⟩|exact .inr (fun _ _ _ h=>by cases h)
def D9 {d:D} (hx:∀x∈nm d,h x=h' x):cG h d=cG h' d:=by
 rcases V9 d with⟨f,c,e,rfl⟩|a
 ·simp only[cG];rw[va (fun d a x b=>hx x (ago.2 ⟨d,a,b⟩))]
 ·rw[Th a]at hx;rw[vL h a,vL h' a];exact vM hx
def ju:∀ {a:List D},(∀d∈a,∀x∈nm d,h x=h' x)->bX h a=bX h' a
 | [],_=>rfl
 | d::a,hx=>by
  simp only[bX];rw[D9 (hx d (by simp)),ju (fun c b=>hx c (by simp[b]))]
def ko {fr:List Nat} (b:∀x∈fr,h x=h' x):jw h fr=jw h' fr:=by
 unfold jw;exact agp fun x a=>by rw[b x a]
def th {d c:D} {b:List Nat} (a:dQ h d=some (c,b)):∀x∈b,x∈nm d:=by
 cases d<;>simp only[dQ,ae5,Prod.mk.injEq]at a<;>try (cases a;done)
 ·obtain⟨_,rfl⟩:=a;simp
 ·obtain⟨_,rfl⟩:=a;simp
 ·obtain⟨_,rfl⟩:=a;simp
 ·obtain⟨_,rfl⟩:=a;simp
 ·split at a
  ·split at a
   ·simp only[ae5,Prod.mk.injEq]at a;obtain⟨_,rfl⟩:=a;simp[nm,iK]
   ·cases a
  ·cases a
def tf {d : D} {c : List D} {b : List Nat} (a : fC h d = some (c, b)) : ∀ x ∈ b, x ∈ nm d := by
  cases d <;> simp only [fC] at a <;> first
    | (simp only [ae5, Prod.mk.injEq] at a; obtain ⟨_, rfl⟩ := a; simp; done)
    | (split at a
       · rename_i e
         simp only [ae5, Prod.mk.injEq] at a;obtain ⟨_, rfl⟩ := a;exact th e
       · cases a)
def B2 {d c:D} {b:List Nat} (a:bH h d=some (c,b)):∀x∈b,x∈iK d:=by
 have one:∀d,(∀f j e,d ≠ .clo f j e)->bH h d=(match dQ h d with|some (c,b)=>some (canon c,b)|none=>none)->bH h d=some (c,b)->∀x∈b,x∈iK d:=by
  intro d g k a;rw[k]at a;split at a
  ·rename_i i;simp only[ae5,Prod.mk.injEq]at a;obtain⟨_,rfl⟩:=a;intro x l;have:=th i x l;cases d<;>first|exact this|exact absurd rfl (g _ _ _)
  ·cases a
 cases d with
 | ptr x v o =>
  simp only[bH]at a;split at a
  ·split at a
   ·simp only[ae5,Prod.mk.injEq]at a;obtain⟨_,rfl⟩:=a;simp[iK]
   ·cases a
  ·cases a
 | agg e=>simp only[bH,ae5,Prod.mk.injEq]at a;obtain⟨_,rfl⟩:=a;simp
 | ip e=>simp only[bH,ae5,Prod.mk.injEq]at a;obtain⟨_,rfl⟩:=a;simp
 | fn f=>simp only[bH,ae5,Prod.mk.injEq]at a;obtain⟨_,rfl⟩:=a;simp
 | clo f j e=>simp[bH,dQ]at a
 | box1 x v s o n =>
  simp only[bH]at a;split at a
  ·rename_i i;simp only[ae5,Prod.mk.injEq]at a;obtain⟨_,rfl⟩:=a;exact th i
  ·cases a
 | mp x v =>
  simp only[bH]at a;split at a
  ·simp only[ae5,Prod.mk.injEq]at a;obtain⟨_,rfl⟩:=a;simp[iK]
  ·cases a
 | mpc ks vs=>simp only[bH,ae5,Prod.mk.injEq]at a;obtain⟨_,rfl⟩:=a;simp
 | pm x v y =>
  simp only[bH]at a;split at a
  ·split at a
   ·split at a
    ·split at a
     ·simp only[ae5,Prod.mk.injEq]at a;obtain⟨_,rfl⟩:=a;simp[iK]
     ·cases a
    ·cases a
   ·cases a
  ·cases a
 | _=>exact one _ (fun _ _ _ h=>by cases h) rfl a
def zJ:∀ {f b:List D} {e:List Nat},dA h f=some (b,e)->∀x∈e,x∈f.flatMap iK
 | [],b,e,a,x,c=>by
  simp only[dA,ae5,Prod.mk.injEq]at a;obtain⟨_,rfl⟩:=a;simp at c
 | d::f,b,e,a,x,c=>by
  simp only[dA]at a;split at a
  ·rename_i g;split at a
   ·rename_i i;simp only[ae5,Prod.mk.injEq]at a;obtain⟨_,rfl⟩:=a;rw[agq];rcases agr.1 c with c|c
    ·exact afa _ (B2 g x c)
    ·exact afb _ (zJ i x c)
   ·cases a
  ·cases a
def Mx {d e:D} {b:List Nat} (a:cG h d=some (e,b)):∀x∈b,x∈nm d:=by
 rcases V9 d with⟨f,i,j,rfl⟩|c
 ·simp only[cG]at a;split at a
  ·rename_i g;simp only[ae5,Prod.mk.injEq]at a;obtain⟨_,rfl⟩:=a;exact zJ g
  ·cases a
 ·rw[Th c];rw[vL h c]at a;exact B2 a
def gX:∀ {f b:List D} {e:List Nat},bX h f=some (b,e)->∀x∈e,∃d∈f,x∈nm d
 | [],b,e,a,x,c=>by
  simp only[bX,ae5,Prod.mk.injEq]at a;obtain⟨_,rfl⟩:=a;simp at c
 | d::f,b,e,a,x,c=>by
  simp only[bX]at a;split at a
  ·rename_i j;split at a
   ·rename_i k;simp only[ae5,Prod.mk.injEq]at a;obtain⟨_,rfl⟩:=a;rcases agr.1 c with c|c
    ·exact⟨d,by simp,Mx j x c⟩
    ·obtain⟨l,g,i⟩:=gX k x c;exact⟨l,by simp[g],i⟩
   ·cases a
  ·cases a
def v8 {a:Nat->Option (Nat×Nat)} : ∀ {parts:List (Nat×D)} {cells:List D},(∀p∈parts,∀x∈nm p.2,h x=h' x)->jf h a cells parts=jf h' a cells parts
 | [],_,_=>rfl
 | (i,d)::parts,cells,hx=>by
  simp only[jf];rw[uv (hx (i,d) (by simp))];have c:∀b,jf h a b parts=jf h' a b parts:=fun b=>v8 (fun p e=>hx p (by simp[e]));simp only[c]
def wa {b:Nat->Option (Nat×Nat)} : ∀ {parts:List (Nat×D)} {cells c:List D} {f:List Nat},jf h b cells parts=some (c,f)->∀x∈f,∃p∈parts,x∈nm p.2
 | [],cells,c,f,a,x,e=>by
  simp only[jf,ae5,Prod.mk.injEq]at a;obtain⟨_,rfl⟩:=a;simp at e
 | (i,d)::parts,cells,c,f,a,x,e=>by
  simp only[jf]at a;split at a
  ·rename_i m j;split at a
   ·split at a
    ·rename_i k;simp only[ae5,Prod.mk.injEq]at a;obtain⟨_,rfl⟩:=a;rcases agr.1 e with e|e
     ·exact⟨(i,d),by simp,tf j x e⟩
     ·obtain⟨p,l,g⟩:=wa k x e;exact⟨p,by simp[l],g⟩
    ·cases a
   ·cases a
  ·cases a
def gU {a:List Nat} {p:Nat×Option Row} (b:p∈jw h a):p.1∈a:=by
 unfold jw at b;obtain⟨x,c,rfl⟩:=aeW.1 b;exact c
def G8 {τ:Ty} {d:D} (a:∀x∈nm d,h x=h' x):eM τ h d=eM τ h' d:=by
 cases d<;>try rfl
 simp only[eM];rw[cU (a _ (by simp[nm,iK]))]
def wG {x v:Nat} (a:h x=h' x):tx h x v=tx h' x v:=by
 unfold tx;rw[a]
def Ki {τ:Ty} {x v y:Nat} (c:h x=h' x) (a:h y=h' y):yK τ h x v y (tx h x v)=yK τ h' x v y (tx h' x v):=by
 rw[wG c];cases tx h' x v with
 | none=>rfl
 | some q =>
  obtain⟨r,d,s,n⟩:=q;simp only[yK];rw[a,ko (fr:=[y]) (fun z b=>by simp only[afj]at b;subst b;exact a)]
def MX {τ:Ty} {d:D} (a:∀x∈nm d,h x=h' x):qS τ h d=qS τ h' d:=by
 have b:=G8 (τ:=τ) a;cases d with
 | ptr x v o =>
  simp only[qS];rw[cU (a x (by simp[nm,iK]))];cases live h' x v with
  | none=>rfl
  | some r=>simp only[sN];rw[b]
 | pm x v y =>
  simp only[qS];rw[cU (a x (by simp[nm,iK])),Ki (a x (by simp[nm,iK])) (a y (by simp[nm,iK]))]
 | _=>exact b
def EA {τ:Ty} {p d:D} (c:∀x∈nm p,h x=h' x) (hx:∀x∈nm d,h x=h' x):gL τ h p d=gL τ h' p d:=by
 cases p<;>try rfl
 simp only[gL];rw[cU (c _ (by simp[nm,iK])),uv hx];cases live h' _ _ with
 | none=>rfl
 | some r =>
  cases e:fC h' d with
  | none=>rfl
  | some q =>
   obtain⟨f,b⟩:=q;simp only;rw[ko (fr:=b) (fun x a=>hx x (tf e x a))]
def Kl {τ:Ty} {p d:D} (a:∀x∈nm p,h x=h' x) (b:∀x∈nm d,h x=h' x):gK τ h p d=gK τ h' p d:=by
 have c:=EA (τ:=τ) a b;cases d with
 | box1 y e s f n =>
  cases p with
  | ptr x v o =>
   simp only[gK];rw[cU (a _ (by simp[nm,iK]))]
  | pm x v k =>
   simp only[gK];rw[cU (a x (by simp[nm,iK])),cU (b y (by simp[nm,iK]))]
  | _=>rfl
 | mp y' v' =>
  cases p with
  | pm x v y =>
   simp only[gK];rw[cU (a x (by simp[nm,iK])),oT (a y (by simp[nm,iK]))]
  | _=>rfl
 | _=>exact c
def Cv {d:D} (a:∀x∈nm d,h x=h' x):mapOf h d=mapOf h' d:=by
 cases d<;>try rfl
 simp only[mapOf];rw[oT (a _ (by simp[nm,iK]))]
def C1 {τ:Ty} {m i:D} {a:Bool} (b:∀x∈nm m,h x=h' x):gT T τ h m i a=gT T τ h' m i a:=by
 unfold gT;rw[Cv b]
def RV {d:D} (a:∀x∈nm d,h x=h' x):yh h d=yh h' d:=by
 cases d<;>first|rfl|(simp only[yh];rw[mH a])
def TS {d c : D} {b : List Nat} (a : yh h d = some (c, b)) : ∀ x ∈ b, x ∈ nm d := by
  cases d <;> simp only [yh] at a <;> first
    | (simp only [ae5, Prod.mk.injEq] at a; obtain ⟨_, rfl⟩ := a; simp; done)
    | (split at a
       · rename_i e
         simp only [ae5, Prod.mk.injEq] at a;obtain ⟨_, rfl⟩ := a;exact th e
       · cases a)
def qV {τ:Ty} {m i d:D} (b:∀x∈nm m,h x=h' x) (hd:∀x∈nm d,h x=h' x):dR T τ h m i d=dR T τ h' m i d:=by
 unfold dR;rw[RV hd];split
 ·rename_i _ _ y v n f g _ _ c;have a:=b y (by simp[nm,iK]);rw[a,oT a];rw[ko (fun z e=>hd z (TS c z e))]
 ·rfl
def Kk {d:D} (a:∀x∈nm d,h x=h' x):uA h d=uA h' d:=by
 cases d<;>try rfl
 simp only[uA];rw[jZ (a _ (by simp[nm,iK]))]
def Ey {τ:Ty} {i:Nat} {d:D} (a:∀x∈nm d,h x=h' x):fE T τ h i d=fE T τ h' i d:=by
 cases d<;>try rfl
 ·simp only[fE];rw[jZ (a _ (by simp[nm,iK]))]
 ·simp only[fE];rw[wG (a _ (by simp[nm,iK]))]
def yJ {τ:Ty} {d i:D} (a:∀x∈nm d,h x=h' x):cy T τ h d i=cy T τ h' d i:=by
 cases d<;>cases i<;>try rfl
 ·simp only[cy];rw[cU (a _ (by simp[nm,iK]))]
 ·simp only[cy];rw[jZ (a _ (by simp[nm,iK]))]
def Ez {τ:Ty} {d:D} {a b c:Option D} (e:∀x∈nm d,h x=h' x):gJ T τ h d a b c=gJ T τ h' d a b c:=by
 cases d<;>try rfl
 simp only[gJ];rw[cU (e _ (by simp[nm,iK]))]
def Ew {τ:Ty} {parts:List (Nat×D)} (d:∀p∈parts,∀x∈nm p.2,h x=h' x):gI T τ h parts=gI T τ h' parts:=by
 unfold gI;have e:∀a cells,jf h a cells parts=jf h' a cells parts:=fun a cells=>v8 d;split
 ·split
  ·rw[e];split
   ·rename_i f;rw[ko (fun x b=>by obtain⟨p,g,c⟩:=wa f x b;exact d p g x c)]
   ·rfl
  ·rfl
 ·rfl
def Kg {q:Nat->Bool} {τ:Ty} {a:Option Nat} {parts:List (Nat×D)} (b:∀p∈parts,∀x∈nm p.2,h x=h' x):qP q T τ h a parts=qP q T τ h' a parts:=by
 have c:=Ew (T:=T) (τ:=τ) b;unfold qP;split
 ·split
  ·exact c
  ·split
   ·rename_i x v s o n _;have e:alive h (.buf x v s o n)=alive h' (.buf x v s o n):=by
     simp only[alive];rw[jZ (b (0,.buf x v s o n) (by simp) x (by simp[nm,iK]))]
    rw[e]
   ·rename_i x v s o n _;have e:alive h (.buf x v s o n)=alive h' (.buf x v s o n):=by
     simp only[alive];rw[jZ (b (0,.box1 x v s o n) (by simp) x (by simp[nm,iK]))]
    rw[e]
   ·rw[c]
 ·exact c
def yb {τ:Ty} {d a:Nat} {parts:List (Nat×D)} (g:∀p∈parts,∀x∈nm p.2,h x=h' x):ef T τ h e d a parts=ef T τ h' e d a parts:=by
 unfold ef;have i:∀b cells,jf h b cells parts=jf h' b cells parts:=fun b cells=>v8 g;split
 ·split
  ·split
   ·rw[i];split
    ·rename_i j;rw[ko (fun x c=>by obtain⟨p,k,f⟩:=wa j x c;exact g p k x f)]
    ·rfl
   ·rfl
  ·rfl
 ·rfl
def CZ {τ:Ty} {d:Nat} {s x:D} (a:∀y∈nm s,h y=h' y) (b:∀y∈nm x,h y=h' y):jE T τ h e d s x=jE T τ h' e d s x:=by
 unfold jE;rw[G4 b];cases s<;>try rfl
 simp only;rw[cU (a _ (by simp[nm,iK]))]
def L1 {d:D} (a:∀x∈nm d,h x=h' x):alive h d=alive h' d:=by
 cases d<;>try rfl
 all_goals
  simp only[alive];rw[jZ (a _ (by simp[nm,iK]))]
def AS {c:Option Nat} {b:Builtin} {f:List Nat} {a:List D} (g:∀d∈a,∀x∈nm d,h x=h' x):dL T h e c b f a=dL T h' e c b f a:=by
 unfold dL;split
 ·rw[L1 (g _ (by simp)),Cv (g _ (by simp))]
 ·split
  ·split
   ·rw[CZ (g _ (by simp)) (g _ (by simp))]
   ·rfl
  ·rfl
 ·rfl
 ·rfl
 ·rfl
def B0 {b:Option Nat} {g:Nat} {a:List D} (i:∀d∈a,∀x∈nm d,h x=h' x):vH Γ h e b g a=vH Γ h' e b g a:=by
 unfold vH;rw[ju i];split
 ·rename_i j;rw[ko (fun x c=>by obtain⟨d,k,f⟩:=gX j x c;exact i d k x f)]
 ·rfl
def vJ {b:Option Nat} {g x v:Nat} {d0:D} {a:List D} (j:h x=h' x) (i:∀d∈a,∀x∈nm d,h x=h' x):qM Γ h e b g x v d0 a=qM Γ h' e b g x v d0 a:=by
 unfold qM;rw[NU j,ju i];split
 ·split
  ·split
   ·rename_i k;rw[ko (fun x c=>by obtain⟨d,l,f⟩:=gX k x c;exact i d l x f)]
   ·rfl
  ·rfl
 ·rfl
def Mh {b:Option Nat} {p:Nat×Nat×Nat} {a:List D} (c:∀d∈a,∀x∈nm d,h x=h' x):zI h e b p a=zI h' e b p a:=by
 unfold zI;split
 ·rw[cU (c _ ags _ (by simp[nm,iK])),cU (c _ (agt _ (agt _ ags)) _ (by simp[nm,iK]))]
 ·rfl
def Me {p:Grow} {a:List D} (b:∀d∈a,∀x∈nm d,h x=h' x):yi h p a=yi h' p a:=by
 unfold yi;split
 ·rw[wG (b _ ags _ (by simp[nm,iK])),b _ ags _ (show _∈nm (D.pm _ _ _) by simp only[nm,iK];exact agt _ ags)]
 ·rfl
def G7 {i:Option Nat} {f:D} {b:List D} (m:∀x∈nm f,h x=h' x) (hx:∀d∈b,∀x∈nm d,h x=h' x):iJ Γ h e i f b=iJ Γ h' e i f b:=by
 cases f<;>try rfl
 ·rename_i g;simp only[iJ];split
  ·exact Mh hx
  split
  ·exact Me hx
  split
  ·split
   ·exact vJ (hx _ ags _ (by simp[nm,iK])) (fun d a=>hx d (agt _ a))
   ·exact vJ (hx _ ags _ (by simp[nm,iK])) (fun d a=>hx d (agt _ a))
   ·exact vJ (hx _ ags _ (by simp[nm,iK])) (fun d a=>hx d (agt _ a))
   ·rfl
  ·exact B0 hx
 ·rename_i g n j;simp only[iJ];split
  ·rename_i k;rw[ae7]at k;have c:∀d∈j,∀x∈nm d,h x=h' x:=fun d a x l=>by
    have:=k d a;rw[Th (fun f n p o=>by rw[o]at this;cases this)]at l;exact m x (ago.2 ⟨d,a,l⟩)
   refine B0 fun d a =>?_;rcases agr.1 a with a|a
   ·exact c d (afD a)
   ·rcases agr.1 a with a|a
    ·exact hx d a
    ·exact c d (afB a)
  ·rfl
def vb {b:Nat} {a:Option Nat} {x:D} (c:∀y∈nm x,h y=h' y):dh T b e a h x=dh T b e a h' x:=by
 unfold dh;split
 ·rw[cU (c _ (by simp[nm,iK])),jZ (c _ (by simp[nm,iK]))]
 ·rfl
 ·rfl
def J8 {d:D} (c:∀x∈nm d,h x=h' x):qN h d=qN h' d:=by
 by_cases a:∀b,d ≠ .agg b
 ·rw[xu a,xu a];exact mH c
 ·simp only[ne_eq,Classical.not_forall,Classical.not_not]at a;obtain⟨b,rfl⟩:=a;rfl
def H4 {d f:D} {c:List Nat} (a:qN h d=some (f,c)):∀x∈c,x∈nm d:=by
 by_cases b:∀e,d ≠ .agg e
 ·rw[xu b]at a;exact th a
 ·simp only[ne_eq,Classical.not_forall,Classical.not_not]at b;obtain⟨e,rfl⟩:=b;simp only[qN,ae5,Prod.mk.injEq]at a;obtain⟨_,rfl⟩:=a;simp
def Kf {q:Nat->Bool} {b:Nat} {a:Option Nat} {x:D} (hx:∀y∈nm x,h y=h' y):sM T q b e a h x=sM T q b e a h' x:=by
 unfold sM mI;rw[J8 hx];split
 ·rw[vb hx];split
  ·rfl
  ·split
   ·rename_i c;rw[ko fun y d=>hx y (H4 c y d)]
   ·rfl
 ·exact vb hx
def Ug {j : Operand -> D} (v : ∀ x ∈ gP o j, h x = h' x) : rL T Γ e o j h = rL T Γ e o j h' := by
  have key : ∀ y, y ∈ o.op.operands.toList -> (∀ a b c, o.op ≠ .pick a b c) -> (∀ a, o.op ≠ .move a) -> (∀ a b c, o.op ≠ .makeFunc a b c) -> ∀ x ∈ nm (j y), h x = h' x := by
    intro y l w A B x n;apply v x;unfold gP;split
    · rename_i k; exact absurd k (A _)
    · rename_i k; exact absurd k (w _ _ _)
    · rename_i k; exact absurd k (B _ _ _)
    · exact afa _ (ago.2 ⟨y, l, n⟩)
  unfold rL;cases k : o.op <;> (try simp only) <;> rw [k] at key <;> try rfl
  case assign x => exact Kf (key x (by simp [Op.operands]) (by simp) (by simp) (by simp))
  case box ty x => rw [uv (key x (by simp [Op.operands]) (by simp) (by simp) (by simp))]
                   split
                   · rename_i r
                     rw [ko (fun z C => key x (by simp [Op.operands]) (by simp) (by simp) (by simp) z (tf r z C))]
                   · rfl
  case load ty x => simp only [MX (key x (by simp [Op.operands]) (by simp) (by simp) (by simp))]
  case store ty x y => simp only [Kl (key x (by simp [Op.operands]) (by simp) (by simp) (by simp)) (key y (by simp [Op.operands]) (by simp) (by simp) (by simp))]
  case nilCheck x => exact Kk (key x (by simp [Op.operands]) (by simp) (by simp) (by simp))
  case fieldAddr ty x i => simp only [Ey (key x (by simp [Op.operands]) (by simp) (by simp) (by simp))]
  case makeMap ty s => cases s <;> rfl
  case lookup ty m i ok => simp only [C1 (key m (by simp [Op.operands]) (by simp) (by simp) (by simp))]
  case mapUpdate ty m i x => simp only [qV (key m (by simp [Op.operands]) (by simp) (by simp) (by simp)) (key x (by simp [Op.operands]) (by simp) (by simp) (by simp))]
  case insert ty m i x => simp only [qV (key m (by simp [Op.operands]) (by simp) (by simp) (by simp)) (key x (by simp [Op.operands]) (by simp) (by simp) (by simp))]
  case indexAddr ty x i => simp only [yJ (key x (by simp [Op.operands]) (by simp) (by simp) (by simp))]
  case slice ty x F G H => simp only [Ez (key x (by simp [Op.operands]) (by simp) (by simp) (by simp))]
  case build ty parts =>
    have : ∀ p ∈ parts.toList.map (fun p => (p.1, j p.2)), ∀ x ∈ nm p.2, h x = h' x := by
      intro p t x g;obtain ⟨q, u, rfl⟩ := aeW.1 t;exact key q.2 (by simp only [Op.operands, List.toList_toArray]; exact aeW.2 ⟨q, u, rfl⟩) (by simp) (by simp) (by simp) x g
    simp only [Kg this]
  case buildSlice ty len parts =>
    have : ∀ p ∈ parts.toList.map (fun p => (p.1, j p.2)), ∀ x ∈ nm p.2, h x = h' x := by
      intro p t x g;obtain ⟨q, u, rfl⟩ := aeW.1 t;exact key q.2 (by simp only [Op.operands, List.toList_toArray]; exact aeW.2 ⟨q, u, rfl⟩) (by simp) (by simp) (by simp) x g
    simp only [yb this]
  case call c =>
    have : ∀ d ∈ c.args.toList.map j, ∀ x ∈ nm d, h x = h' x := by
      intro d E x g;obtain ⟨y, l, rfl⟩ := aeW.1 E;exact key y (by simp only [Op.operands, Call.operands, agc]; exact afb _ l) (by simp) (by simp) (by simp) x g
    cases r : c.callee with
    | value f => exact G7 (key f (by simp [Op.operands, Call.operands, r]) (by simp) (by simp) (by simp)) this
    | builtin b => exact AS this
    | invoke _ _ => rfl
def aaP {j g:Operand->D} (hx:∀y∈o.op.operands.toList,j y=g y):rL T Γ e o j h=rL T Γ e o g h∧gP o j=gP o g:=by
 refine⟨?_,?_⟩
 ·unfold rL;cases r:o.op<;>(try simp only)<;>rw[r]at hx<;>try rfl
  case move x=>rw[hx x (by simp[Op.operands])]
  case assign x=>rw[hx x (by simp[Op.operands])]
  case pick a b c=>rw[hx a (by simp[Op.operands]),hx b (by simp[Op.operands]),hx c (by simp[Op.operands])]
  case box ty x=>rw[hx x (by simp[Op.operands])]
  case load ty x=>rw[hx x (by simp[Op.operands])]
  case store ty x y=>rw[hx x (by simp[Op.operands]),hx y (by simp[Op.operands])]
  case nilCheck x=>rw[hx x (by simp[Op.operands])]
  case fieldAddr ty x i=>rw[hx x (by simp[Op.operands])]
  case field ty x i=>rw[hx x (by simp[Op.operands])]
  case makeMap ty t=>cases t<;>rfl
  case lookup ty m i ok=>rw[hx m (by simp[Op.operands]),hx i (by simp[Op.operands])]
  case mapUpdate ty m i x=>rw[hx m (by simp[Op.operands]),hx i (by simp[Op.operands]),hx x (by simp[Op.operands])]
  case insert ty m i x=>rw[hx m (by simp[Op.operands]),hx i (by simp[Op.operands]),hx x (by simp[Op.operands])]
  case indexAddr ty x i=>rw[hx x (by simp[Op.operands]),hx i (by simp[Op.operands])]
  case index ty x i=>rw[hx x (by simp[Op.operands]),hx i (by simp[Op.operands])]
  case slice ty x u v w =>
   rw[hx x (by simp[Op.operands])];have A:u.map j=u.map g:=by cases u with|none=>rfl|some y=>simp only[Option.map_some];rw[hx y (by simp[Op.operands])]
   have B:v.map j=v.map g:=by cases v with|none=>rfl|some y=>simp only[Option.map_some];rw[hx y (by simp[Op.operands])]
   have C:w.map j=w.map g:=by cases w with|none=>rfl|some y=>simp only[Option.map_some];rw[hx y (by simp[Op.operands])]
   rw[A,B,C]
  case build ty parts =>
   have:parts.toList.map (fun p=>(p.1,j p.2))=parts.toList.map (fun p=>(p.1,g p.2)):=agp fun p z=>by rw[hx p.2 (by simp only[Op.operands,List.toList_toArray];exact aeW.2 ⟨p,z,rfl⟩)]
   rw[this]
  case buildSlice ty len parts =>
   have:parts.toList.map (fun p=>(p.1,j p.2))=parts.toList.map (fun p=>(p.1,g p.2)):=agp fun p z=>by rw[hx p.2 (by simp only[Op.operands,List.toList_toArray];exact aeW.2 ⟨p,z,rfl⟩)]
   rw[this]
  case makeSlice ty l c=>rw[hx l (by simp[Op.operands]),hx c (by simp[Op.operands])]
  case binOp E ty x y ty'=>rw[hx x (by simp[Op.operands]),hx y (by simp[Op.operands])]
  case unOp E ty x=>rw[hx x (by simp[Op.operands])]
  case convert s d x=>rw[hx x (by simp[Op.operands])]
  case makeFunc fn first caps =>
   have:caps.toList.map j=caps.toList.map g:=agp fun y k=>hx y (by simp only[Op.operands,agc];exact afb _ k);have n:first.toList.map j=first.toList.map g:=agp fun y k=>hx y (by simp only[Op.operands,agc];exact afa _ k)
   rw[this,n]
  case extract x i=>rw[hx x (by simp[Op.operands])]
  case call c =>
   have:c.args.toList.map j=c.args.toList.map g:=agp fun y k=>hx y (by simp only[Op.operands,Call.operands,agc];exact afb _ k);cases F:c.callee with
   | value f=>simp only;rw[this,hx f (by simp[Op.operands,Call.operands,F])]
   | builtin b=>simp only;rw[this]
   | invoke _ _=>rfl
 ·have q:o.op.operands.toList.flatMap (fun y=>nm (j y))=o.op.operands.toList.flatMap (fun y=>nm (g y)):=by
   rw[List.flatMap_def,List.flatMap_def];congr 1;exact agp fun y k=>by rw[hx y k]
  unfold gP;cases r:o.op<;>simp only<;>rw[r]at q<;>rw[q]
end
section
variable {T:Nat->Option Ty} {h h':Nat->Option Row} {e:Nat} {o:Oper} {Γ:Env}
def C0 {τ:Ty} {d:Nat} {s x:D} {E:cd} (a:jE T τ h e d s x=some E):∀p∈E.hw,p.1=d∨p.1∈nm s:=by
 unfold jE at a;split at a
 ·split at a
  ·split at a
   ·split at a
    ·split at a
     ·split at a
      ·simp only[ae5]at a;subst a;intro p b;simp at b
      ·simp only[ae5]at a;subst a;intro p b;simp at b;exact .inl (by rw[b])
     ·cases a
    ·split at a
     ·split at a
      ·simp only[ae5]at a;subst a;intro p b;simp only[ae3,af2,or_false]at b;rcases b with rfl|rfl
       ·exact .inr (by simp[nm,iK])
       ·exact .inl rfl
      ·cases a
     ·cases a
    ·cases a
   ·cases a
  ·cases a
 ·cases a
def B1 {f:Option Nat} {g:Nat} {c:List D} {E:cd} (a:vH Γ h e f g c=some E):∀p∈E.hw,f=some p.1∨∃d∈c,p.1∈nm d:=by
 unfold vH at a;split at a
 ·rename_i i;split at a
  ·simp only[ae5]at a;subst a;intro p b;simp only at b;split at b
   ·simp at b
   ·exact .inr (gX i _ (gU b))
  ·split at a
   ·split at a
    ·simp only[ae5]at a;subst a;intro p b;simp only[agr,afj]at b;rcases b with b|rfl
     ·split at b
      ·simp at b
      ·exact .inr (gX i _ (gU b))
     ·exact .inl rfl
    ·cases a
   ·cases a
  ·cases a
 ·cases a
def Mf {p:Grow} {b:List D} {E:cd} (a:yi h p b=some E):∀q∈E.hw,∃d∈b,q.1∈nm d:=by
 unfold yi at a;split at a<;>try (cases a;done)
 split at a<;>try (cases a;done)
 split at a<;>try (cases a;done)
 rename_i c;obtain⟨rfl,_⟩:=c;split at a<;>try (cases a;done)
 simp only[ae5]at a;subst a;intro q e;simp only[ae3,af2,or_false]at e;rcases e with rfl|rfl
 ·exact⟨_,ags,by simp[nm,iK]⟩
 ·exact⟨_,ags,by simp[nm,iK]⟩
def Mi {c:Option Nat} {p:Nat×Nat×Nat} {b:List D} {E:cd} (a:zI h e c p b=some E):∀q∈E.hw,c=some q.1∨∃d∈b,q.1∈nm d:=by
 unfold zI at a;split at a<;>try (cases a;done)
 split at a<;>try (cases a;done)
 split at a<;>try (cases a;done)
 simp only[ae5]at a;subst a;intro q f;simp only[ae3,af2,or_false]at f;rcases f with rfl|rfl|rfl
 ·exact .inr ⟨_,agt _ (agt _ ags),by simp[nm,iK]⟩
 ·exact .inr ⟨_,ags,by simp[nm,iK]⟩
 ·exact .inl rfl
def vK {i:Option Nat} {g x v:Nat} {d0:D} {c:List D} {E:cd} (a:qM Γ h e i g x v d0 c=some E):∀p∈E.hw,i=some p.1∨p.1=x∨∃d∈c,p.1∈nm d:=by
 unfold qM at a;split at a<;>try (cases a;done)
 split at a<;>try (cases a;done)
 split at a<;>try (cases a;done)
 rename_i f;split at a<;>try (cases a;done)
 split at a<;>try (cases a;done)
 ·simp only[ae5]at a;subst a;intro p b;simp only[agr,afj]at b;rcases b with b|rfl
  ·exact .inr (.inr (gX f _ (gU b)))
  ·exact .inr (.inl rfl)
 ·simp only[ae5]at a;subst a;intro p b;simp only[agr,afj]at b;rcases b with b|rfl
  ·exact .inr (.inr (gX f _ (gU b)))
  ·exact .inr (.inl rfl)
 ·split at a<;>try (cases a;done)
  split at a<;>try (cases a;done)
  simp only[ae5]at a;subst a;intro p b;simp only[agr,ae3,af2,or_false]at b;rcases b with b|rfl|rfl
  ·exact .inr (.inr (gX f _ (gU b)))
  ·exact .inr (.inl rfl)
  ·exact .inl rfl
def yL {τ:Ty} {d:D} {E:cd} (a:eM τ h d=some E):E.hw=[]:=by
 cases d<;>simp only[eM]at a<;>try (cases a;done)
 all_goals (repeat' split at a)<;>first|(cases a;done)|(simp only[ae5]at a;subst a;rfl)
def WC {τ:Ty} {d:D} {E:cd} (a:qS τ h d=some E):∀p∈E.hw,p.1∈nm d:=by
 have none_:E.hw=[]->∀p∈E.hw,p.1∈nm d:=fun e p b=>by rw[e]at b;simp at b
 have c:eM τ h d=some E->∀p∈E.hw,p.1∈nm d:=fun e=>none_ (yL e);cases d with
 | ptr x v o =>
  simp only[qS]at a;cases c:live h x v with
  | none=>rw[c]at a;cases a
  | some r =>
   rw[c]at a;simp only[sN]at a;split at a
   ·split at a
    ·split at a
     ·exact none_ (by simp only[ae5]at a;subst a;rfl)
     ·exact none_ (yL a)
    ·cases a
   ·exact none_ (yL a)
 | pm x v y =>
  simp only[qS]at a;split at a
  ·split at a
   ·split at a
    ·exact none_ (by simp only[ae5]at a;subst a;rfl)
    ·cases a
   ·cases a
  ·unfold yK at a;split at a
   ·split at a
    ·split at a
     ·simp only[ae5]at a;subst a;intro p b;have:=gU b;simp only[afj]at this;rw[this];simp[nm,iK]
     ·cases a
    ·cases a
   ·cases a
 | _=>exact c a
def EB {τ:Ty} {q d:D} {E:cd} (a:gL τ h q d=some E):∀p∈E.hw,p.1∈nm d∨p.1∈nm q:=by
 cases q<;>simp only[gL]at a<;>try (cases a;done)
 split at a
 ·split at a
  ·rename_i c;split at a
   ·simp only[ae5]at a;subst a;intro p b;rcases agr.1 b with b|b
    ·exact .inl (tf c _ (gU b))
    ·simp only[afj]at b;subst b;exact .inr (by simp[nm,iK])
   ·cases a
  ·cases a
 ·cases a
def Km {τ:Ty} {q d:D} {E:cd} (a:gK τ h q d=some E):∀p∈E.hw,p.1∈nm d∨p.1∈nm q:=by
 have c:gL τ h q d=some E->∀p∈E.hw,p.1∈nm d∨p.1∈nm q:=EB;cases d with
 | box1 y e s f n =>
  cases q with
  | ptr x v o =>
   simp only[gK]at a;split at a
   ·split at a
    ·simp only[ae5]at a;subst a;intro p b;simp only[afj]at b;subst b;exact .inr (by simp[nm,iK])
    ·cases a
   ·cases a
  | pm x v k =>
   simp only[gK]at a;split at a
   ·split at a
    ·simp only[ae5]at a;subst a;intro p b;simp only[ae3,af2,or_false]at b;rcases b with rfl|rfl|rfl
     ·exact .inl (by simp[nm,iK])
     ·exact .inr (by simp[nm,iK])
     ·exact .inr (by simp[nm,iK])
    ·cases a
   ·cases a
  | _=>simp[gK]at a
 | mp y' v' =>
  cases q with
  | pm x v y =>
   simp only[gK]at a;split at a
   ·split at a
    ·simp only[ae5]at a;subst a;intro p b;simp only[afj]at b;subst b;exact .inr (by simp[nm,iK])
    ·cases a
   ·cases a
  | _=>simp[gK]at a
 | _=>exact c a
def Kj {τ:Ty} {m i:D} {b:Bool} {E:cd} (a:gT T τ h m i b=some E):E.hw=[]:=by
 unfold gT at a;split at a
 ·split at a
  ·split at a
   ·simp only[ae5]at a;subst a;rfl
   ·cases a
  ·cases a
 ·cases a
def qW {τ:Ty} {m i d:D} {E:cd} (a:dR T τ h m i d=some E):∀p∈E.hw,p.1∈nm d∨p.1∈nm m:=by
 unfold dR at a;split at a
 ·rename_i c;split at a
  ·split at a
   ·split at a
    ·simp only[ae5]at a;subst a;intro p b;rcases agr.1 b with b|b
     ·exact .inl (TS c _ (gU b))
     ·simp only[afj]at b;subst b;exact .inr (by simp[nm,iK])
    ·cases a
   ·cases a
  ·cases a
 ·cases a
def qQ {τ:Ty} {parts:List (Nat×D)} {E:cd} (a:gI T τ h parts=some E):∀p∈E.hw,∃q∈parts,p.1∈nm q.2:=by
 unfold gI at a;split at a
 ·split at a
  ·split at a
   ·rename_i b;simp only[ae5]at a;subst a;intro p c;exact wa b _ (gU c)
   ·cases a
  ·cases a
 ·cases a
def Kh {q:Nat->Bool} {τ:Ty} {b:Option Nat} {parts:List (Nat×D)} {E:cd} (a:qP q T τ h b parts=some E):∀p∈E.hw,∃q∈parts,p.1∈nm q.2:=by
 unfold qP at a;split at a
 ·split at a
  ·exact qQ a
  ·split at a
   ·split at a
    ·simp only[ae5]at a;subst a;intro p c;simp at c
    ·cases a
   ·split at a
    ·simp only[ae5]at a;subst a;intro p c;simp at c
    ·cases a
   ·unfold cE at a;split at a
    ·rename_i d;simp only[ae5]at a;subst a;have e:=qQ d;exact e
    ·cases a
 ·exact qQ a
def Iu {A:Operand->D} {E:cd} (j:rL T Γ e o A h=some E):∀p∈E.hw,p.1∈gP o A:=by
 have key:∀y,y∈o.op.operands.toList->(∀a b c,o.op ≠ .pick a b c)->(∀a,o.op ≠ .move a)->(∀a b c,o.op ≠ .makeFunc a b c)->∀x∈nm (A y),x∈gP o A:=by
  intro y I h1 N O x P;unfold gP;split
  ·rename_i C;exact absurd C (N _)
  ·rename_i C;exact absurd C (h1 _ _ _)
  ·rename_i C;exact absurd C (O _ _ _)
  ·exact afa _ (ago.2 ⟨y,I,P⟩)
 have keyd:∀d,o.dst=some d->(∀a b c,o.op ≠ .pick a b c)->(∀a,o.op ≠ .move a)->(∀a b c,o.op ≠ .makeFunc a b c)->d∈gP o A:=by
  intro d t h1 N O;unfold gP;split
  ·rename_i C;exact absurd C (N _)
  ·rename_i C;exact absurd C (h1 _ _ _)
  ·rename_i C;exact absurd C (O _ _ _)
  ·exact afb _ (by rw[t];simp)
 have k:∀(d:D),(some ⟨d,[]⟩:Option cd)=some E->∀p∈E.hw,p.1∈gP o A:=by
  intro d L p r;simp only[ae5]at L;subst L;simp at r
 unfold rL at j;cases C:o.op<;>rw[C]at j key keyd<;>simp only at j<;>try (cases j;done)
 case move x=>exact k _ j
 case assign x =>
  have F:dh T o.type e o.dst h (A x)=some E->∀p∈E.hw,p.1∈gP o A:=by
   intro j;unfold dh at j;split at j
   ·rename_i y v s c n u;split at j
    ·rename_i t _;split at j
     ·exact k _ j
     ·simp only[ae5]at j;subst j;intro p r;simp only[ae3,af2,or_false]at r;rcases r with rfl|rfl
      ·exact key x (by simp[Op.operands]) (by simp) (by simp) (by simp) _ (by rw[u];simp[nm,iK])
      ·exact keyd _ t (by simp) (by simp) (by simp)
    ·split at j
     ·exact k _ j
     ·exact k _ j
   ·split at j
    ·rename_i t _;split at j
     ·split at j
      ·simp only[ae5]at j;subst j;intro p r;simp only[afj]at r;subst r;exact keyd _ t (by simp) (by simp) (by simp)
      ·cases j
     ·cases j
    ·cases j
   ·exact k _ j
  unfold sM at j;split at j
  ·rename_i d t;split at j
   ·rw[<- t]at j;exact F j
   ·unfold mI at j;split at j
    ·rename_i Z fr G;simp only[ae5]at j;subst j;intro p r;exact key x (by simp[Op.operands]) (by simp) (by simp) (by simp) _ (H4 G _ (gU r))
    ·cases j
  ·rename_i t;rw[<- t]at j;exact F j
 case pick a b c =>
  split at j
  ·exact k _ j
  ·exact k _ j
  ·cases j
 case alloc ty =>
  split at j
  ·rename_i t;split at j
   ·simp only[ae5]at j;subst j;intro p r;simp only[afj]at r;subst r;exact keyd _ t (by simp) (by simp) (by simp)
   ·cases j
  ·cases j
 case box ty x =>
  split at j
  ·rename_i t G;split at j
   ·simp only[ae5]at j;subst j;intro p r;rcases agr.1 r with r|r
    ·exact key x (by simp[Op.operands]) (by simp) (by simp) (by simp) _ (tf G _ (gU r))
    ·simp only[afj]at r;subst r;exact keyd _ t (by simp) (by simp) (by simp)
   ·cases j
  ·cases j
 case load ty x =>
  split at j
  ·intro p r;exact key x (by simp[Op.operands]) (by simp) (by simp) (by simp) _ (WC j p r)
  ·cases j
 case store ty x y =>
  split at j
  ·intro p r;rcases Km j p r with z|z
   ·exact key y (by simp[Op.operands]) (by simp) (by simp) (by simp) _ z
   ·exact key x (by simp[Op.operands]) (by simp) (by simp) (by simp) _ z
  ·cases j
 case makeMap ty Q =>
  cases Q with
  | some _=>cases j
  | none =>
   simp only at j;split at j
   ·rename_i t;unfold nO at j;split at j
    ·split at j
     ·cases j
     simp only[ae5]at j;subst j;intro p r;simp only[afj]at r;subst r;exact keyd _ t (by simp) (by simp) (by simp)
    ·cases j
   ·cases j
 case lookup ty m i ok =>
  split at j
  ·intro p r;rw[Kj j]at r;simp at r
  ·cases j
 case mapUpdate ty m i x =>
  split at j
  ·intro p r;rcases qW j p r with z|z
   ·exact key x (by simp[Op.operands]) (by simp) (by simp) (by simp) _ z
   ·exact key m (by simp[Op.operands]) (by simp) (by simp) (by simp) _ z
  ·cases j
 case insert ty m i x =>
  split at j
  ·intro p r;rcases qW j p r with z|z
   ·exact key x (by simp[Op.operands]) (by simp) (by simp) (by simp) _ z
   ·exact key m (by simp[Op.operands]) (by simp) (by simp) (by simp) _ z
  ·cases j
 case nilCheck x =>
  cases u:A x<;>rw[u]at j<;>simp only[uA]at j<;>try (cases j;done)
  ·split at j
   ·exact k _ j
   ·cases j
  ·exact k _ j
 case fieldAddr ty x i =>
  split at j
  ·cases u:A x<;>rw[u]at j<;>simp only[fE]at j<;>try (cases j;done)
   ·split at j
    ·split at j
     ·split at j
      ·split at j
       ·cases j
       ·exact k _ j
      ·cases j
     ·cases j
    ·cases j
   ·split at j
    ·split at j
     ·split at j
      ·split at j
       ·cases j
       ·exact k _ j
      ·cases j
     ·cases j
    ·cases j
   ·split at j
    ·split at j
     ·split at j
      ·split at j
       ·cases j
       ·exact k _ j
      ·cases j
     ·cases j
    ·cases j
  ·cases j
 case field ty x i =>
  split at j
  ·cases u:A x<;>rw[u]at j<;>simp only[zY]at j<;>try (cases j;done)
   split at j
   ·split at j
    ·split at j
     ·split at j
      ·exact k _ j
      ·cases j
     ·cases j
    ·cases j
   ·cases j
  ·cases j
 case indexAddr ty x i =>
  split at j
  ·cases u:A x<;>cases M:A i<;>rw[u,M]at j<;>simp only[cy]at j<;>try (cases j;done)
   all_goals
    split at j
    ·split at j
     ·split at j
      ·exact k _ j
      ·cases j
     ·cases j
    ·cases j
  ·cases j
 case index ty x i =>
  split at j
  ·cases u:A x<;>cases M:A i<;>rw[u,M]at j<;>simp only[lu]at j<;>try (cases j;done)
   ·split at j
    ·split at j
     ·split at j
      ·exact k _ j
      ·cases j
     ·cases j
    ·cases j
   ·split at j
    ·split at j
     ·split at j
      ·split at j
       ·exact k _ j
       ·cases j
      ·cases j
     ·cases j
    ·cases j
  ·cases j
 case slice ty x lo M mx =>
  split at j
  ·unfold gJ at j;split at j
   ·split at j
    ·exact k _ j
    ·cases j
   ·split at j
    ·split at j
     ·split at j
      ·exact k _ j
      ·split at j
       ·split at j
        ·exact k _ j
        ·cases j
       ·cases j
     ·cases j
    ·cases j
   ·split at j
    ·split at j
     ·split at j
      ·exact k _ j
      ·cases j
     ·cases j
    ·cases j
   ·cases j
  ·cases j
 case build ty parts =>
  split at j
  ·intro p r;obtain⟨q,R,u⟩:=Kh j p r;obtain⟨y,I,rfl⟩:=aeW.1 R;exact key y.2 (by simp only[Op.operands,List.toList_toArray];exact aeW.2 ⟨y,I,rfl⟩) (by simp) (by simp) (by simp) _ u
  ·cases j
 case buildSlice ty len parts =>
  split at j
  ·rename_i t;unfold ef at j;split at j
   ·split at j
    ·split at j
     ·split at j
      ·rename_i V;split at j
       ·simp only[ae5]at j;subst j;intro p r;rcases agr.1 r with r|r
        ·obtain⟨q,R,u⟩:=wa V _ (gU r);obtain⟨y,I,rfl⟩:=aeW.1 R;exact key y.2 (by simp only[Op.operands,List.toList_toArray];exact aeW.2 ⟨y,I,rfl⟩) (by simp) (by simp) (by simp) _ u
        ·simp only[afj]at r;subst r;exact keyd _ t (by simp) (by simp) (by simp)
       ·cases j
      ·cases j
     ·cases j
    ·cases j
   ·cases j
  ·cases j
 case makeSlice ty l c =>
  split at j
  ·rename_i t;unfold sa at j;split at j
   ·split at j
    ·split at j
     ·simp only[ae5]at j;subst j;intro p r;simp only[afj]at r;subst r;exact keyd _ t (by simp) (by simp) (by simp)
     ·cases j
    ·cases j
   ·cases j
  ·cases j
 case binOp op ty x y ty' =>
  split at j
  ·exact k _ j
  ·cases j
 case unOp op ty x =>
  split at j
  ·exact k _ j
  ·cases j
 case makeFunc fn first caps =>
  split at j
  ·split at j
   ·exact k _ j
   ·cases j
  ·cases j
 case convert s d x =>
  split at j
  ·split at j
   ·exact k _ j
   ·cases j
  ·cases j
 case extract x i =>
  split at j
  ·split at j
   ·exact k _ j
   ·cases j
  ·cases j
 case call c =>
  cases G:c.callee with
  | invoke _ _=>rw[G]at j;cases j
  | value f =>
   rw[G]at j;simp only at j;have w:∀d∈c.args.toList.map A,∀x∈nm d,x∈gP o A:=by
    intro d t x u;obtain⟨y,I,rfl⟩:=aeW.1 t;exact key y (by simp only[Op.operands,Call.operands,agc];exact afb _ I) (by simp) (by simp) (by simp) _ u
   have B:∀d,o.dst=some d->d∈gP o A:=fun d t=>keyd d t (by simp) (by simp) (by simp);have S:∀x∈nm (A f),x∈gP o A:=key f (by simp[Op.operands,Call.operands,G]) (by simp) (by simp) (by simp);generalize c.args.toList.map A=ds at *;unfold iJ at j;split at j
   ·split at j
    ·intro p r;rcases Mi j p r with z|⟨d,t,u⟩
     ·exact B _ z
     ·exact w d t _ u
    split at j
    ·intro p r;obtain⟨d,t,u⟩:=Mf j p r;exact w d t _ u
    split at j
    ·split at j
     ·intro p r;rcases vK j p r with z|z|⟨d,t,u⟩
      ·exact B _ z
      ·exact w _ ags _ (by rw[z];simp[nm,iK])
      ·exact w d (agt _ t) _ u
     ·intro p r;rcases vK j p r with z|z|⟨d,t,u⟩
      ·exact B _ z
      ·exact w _ ags _ (by rw[z];simp[nm,iK])
      ·exact w d (agt _ t) _ u
     ·intro p r;rcases vK j p r with z|z|⟨d,t,u⟩
      ·exact B _ z
      ·exact w _ ags _ (by rw[z];simp[nm,iK])
      ·exact w d (agt _ t) _ u
     ·cases j
    ·intro p r;rcases B1 j p r with z|⟨d,t,u⟩
     ·exact B _ z
     ·exact w d t _ u
   ·rename_i g W caps U;split at j
    ·rename_i K;rw[ae7]at K;have H:∀d∈caps,∀x∈nm d,x∈gP o A:=fun d t x u=>by
      have:=K d t;rw[Th (fun f W xs L=>by rw[L]at this;cases this)]at u;exact S _ (by rw[U];exact ago.2 ⟨d,t,u⟩)
     intro p r;rcases B1 j p r with z|⟨d,t,u⟩
     ·exact B _ z
     ·rcases agr.1 t with t|t
      ·exact H d (afD t) _ u
      ·rcases agr.1 t with t|t
       ·exact w d t _ u
       ·exact H d (afB t) _ u
    ·cases j
   ·cases j
  | builtin b =>
   rw[G]at j;simp only at j;unfold dL at j;split at j
   ·split at j
    ·split at j
     ·split at j
      ·exact k _ j
      ·exact k _ j
      ·exact k _ j
      ·cases j
     ·split at j
      ·exact k _ j
      ·cases j
     ·cases j
    ·cases j
   ·rename_i s x J;obtain⟨X,px,Y,rfl,rfl⟩:=Td J;split at j
    ·split at j
     ·rename_i t;intro p r;rcases C0 j p r with h1|h1
      ·rw[h1];exact keyd _ t (by simp) (by simp) (by simp)
      ·exact key X (by simp only[Op.operands,Call.operands,agc];exact afb _ (by rw[Y];simp)) (by simp) (by simp) (by simp) _ h1
     ·cases j
    ·cases j
   ·split at j
    ·exact k _ j
    ·cases j
   ·split at j
    ·exact k _ j
    ·cases j
   ·cases j
end
def ec {h h':Nat->Option Row} {k:Nat} (b:h (rt k)=h' (rt k)):EH h k=EH h' k:=by
 unfold EH;unfold rt at b;split
 ·rename_i a;rw[if_pos a]at b;rw[b]
 ·rename_i a;rw[if_neg a]at b;rw[b]
def cQ:PK=1000000:=rfl
def e9 (x o:Nat):2*PK<=NK x o:=by unfold NK;rw[cQ];omega
def ud {x:Nat} (o:Nat) (a:x<PK):NK x o % PK=x:=by
 unfold NK;rw[Nat.mul_add_mod];exact afR a
def DM {x:Nat} (o:Nat) (a:x<PK):NK x o / PK-2=o:=by
 unfold NK;rw[Nat.mul_add_div (by rw[cQ];decide),ahi a];omega
def LV {k:Nat} (a:2*PK<=k):k=NK (k % PK) (k / PK-2):=by
 unfold NK;have c:2<=k / PK:=by
  rw[Nat.le_div_iff_mul_le (by rw[cQ];decide)];exact a
 have b:k / PK-2+2=k / PK:=by omega
 rw[b];exact (ag3 k PK).symm
def I2 (k:Nat):k % PK<PK:=afO _ (by rw[cQ];decide)
def vf {x o:Nat} (a:x<PK):rt (NK x o)=x:=by
 unfold rt;rw[if_neg (by have:=e9 x o;omega),ud o a]
def ig {k:Nat} (a:k<2*PK):rt k=k:=if_pos a
def s8 {h:Nat->Option Row} {x o:Nat} (a:x<PK):EH h (NK x o)=(h x).bind fun r=>sg r o:=by
 unfold EH;rw[if_neg (by have:=e9 x o;omega),ud o a,DM o a]
def s9 {h:Nat->Option Row} {k:Nat} (a:k<2*PK):EH h k=(h k).map (Dz k):=if_pos a
def acW (y:Nat) (r:Row):(Dz y r).v=r.v∧(Dz y r).ty=r.ty∧(Dz y r).fz=r.fz∧(Dz y r).lst=r.lst∧(Dz y r).mp=r.mp:=by
 unfold Dz;split<;>exact⟨rfl,rfl,rfl,rfl,rfl⟩
def LeC (d a:D):Prop:=a=d∨((∃x s n,d=.ph x s n)∧a=.und)
def Sb (r a:Row):Prop:=a=r∨(r.mp=true∧∃cs,a = { r with cells:=cs }∧cs.length=r.cells.length∧∀(j:Nat) d b,r.cells[j]? = some d->cs[j]? = some b->LeC d b)∨(r.mp=false∧∃k,a = { r with cells:=r.cells.take k })
def Dj (h h':Nat->Option Row):Prop:=∀k a,h' k=some a->∃r,h k=some r∧Sb r a
def Sb.refl (r:Row):Sb r r := .inl rfl
def Dj.refl (h:Nat->Option Row):Dj h h:=fun k a b=>⟨a,b,.refl _⟩
def LeC.trans {a b c:D} (h:LeC a b) (k:LeC b c):LeC a c:=by
 rcases h with rfl|⟨d,rfl⟩
 ·exact k
 ·rcases k with rfl|⟨⟨_,_,_,e⟩,_⟩
  ·exact .inr ⟨d,rfl⟩
  ·cases e
def Sb.trans {a b c:Row} (h:Sb a b) (k:Sb b c):Sb a c:=by
 rcases h with rfl|⟨f,o,rfl,p,q⟩|⟨f,n,rfl⟩
 ·exact k
 ·rcases k with rfl|⟨e,l,rfl,r,s⟩|⟨e,_⟩
  ·exact .inr (.inl ⟨f,o,rfl,p,q⟩)
  ·refine .inr (.inl ⟨f,l,rfl,r.trans p,fun j d t u g =>?_⟩);have i:j<o.length:=by
    have:=(afp.1 g).1;simp only at r;omega
   exact (q j d _ u (ae9 i)).trans (s j _ t (ae9 i) g)
  ·simp only at e;rw[f]at e;cases e
 ·rcases k with rfl|⟨e,_⟩|⟨_,m,rfl⟩
  ·exact .inr (.inr ⟨f,n,rfl⟩)
  ·simp only at e;rw[f]at e;cases e
  ·exact .inr (.inr ⟨f,min m n,by simp[List.take_take]⟩)
def Dj.trans {a b c:Nat->Option Row} (h:Dj a b) (k:Dj b c):Dj a c:=fun x r d=>by
 obtain⟨e,f,g⟩:=k x r d;obtain⟨i,j,l⟩:=h x e f;exact⟨i,j,l.trans g⟩
def Dj.bY {a b:Nat->Option Row} (h:Dj a b) (x:Nat) (r:Option Row):Dj (bY a x r) (bY b x r):=fun y d c=>by
 by_cases e:y=x
 ·subst e;rw[aA]at c ⊢;exact⟨d,c,.refl _⟩
 ·rw[aC _ _ e]at c ⊢;exact h y d c
def Dj.apply:∀(l:List (Nat×Option Row)) {a b:Nat->Option Row},Dj a b->Dj (aW a l) (aW b l)
 | [],_,_,h=>h
 | (x,r)::l,_,_,h=>Dj.apply l (h.bY x r)
def Sb.same {r a:Row} (h:Sb r a):a.v=r.v∧a.ty=r.ty∧a.fz=r.fz∧a.lst=r.lst∧a.mp=r.mp:=by
 rcases h with rfl|⟨_,b,rfl,_⟩|⟨_,k,rfl⟩<;>exact⟨rfl,rfl,rfl,rfl,rfl⟩
def Sb.nil {r b:Row} (h:Sb r b) (a:r.cells=[]):b.cells=[]:=by
 rcases h with rfl|⟨_,d,rfl,c,_⟩|⟨_,k,rfl⟩
 ·exact a
 ·rw[a]at c;exact aga c
 ·simp[a]
def Sb.cell {r e:Row} (h:Sb r e) {j:Nat} {c:D} (a:e.cells[j]? = some c) (d:c ≠ .und):r.cells[j]? = some c:=by
 rcases h with rfl|⟨_,g,rfl,i,f⟩|⟨_,k,rfl⟩
 ·exact a
 ·have b:j<r.cells.length:=by
   have:=(afp.1 a).1;simp only at this;omega
  rcases f j _ c (ae9 b) a with rfl|⟨_,rfl⟩
  ·exact ae9 b
  ·exact absurd rfl d
 ·simp only[afc]at a;split at a
  ·exact a
  ·cases a
def dV.le {w:World} {M:Nat->Prop} {g:Nat×Nat} {r t:Row} (h:dV w M g r) (A:Sb r t):dV w M g t:=by
 rcases A with rfl|⟨p,q,rfl,u,v⟩|⟨p,k,rfl⟩
 ·exact h
 rotate_left
 ·unfold dV at h ⊢;simp only[p]at h ⊢;obtain⟨c,b,o,x⟩:=h;refine⟨c,b,by simp only[aff];omega,fun j d i =>?_⟩;simp only[afc]at i;split at i
  ·exact x j d i
  ·cases i
 ·unfold dV at h ⊢;simp only[p]at h ⊢;rcases h with⟨y,z,b,o⟩|⟨b,c,o,x,B⟩
  ·have s:q=r.cells:=by
    rw[b]at u
    match q,u with
    | [a],_ =>
     rcases v 0 (.mpc y z) a (by rw[b];rfl) rfl with rfl|⟨⟨_,_,_,C⟩,_⟩
     ·exact b.symm
     ·cases C
   subst s;exact .inl ⟨y,z,b,o⟩
  ·have m:∀(j:Nat) (a:D),q[j]? = some a->∃d,r.cells[j]? = some d∧LeC d a:=by
    intro j a l;have n:j<r.cells.length:=by
     have:=(afp.1 l).1;omega
    exact⟨_,ae9 n,v j _ a (ae9 n) l⟩
   refine .inr ⟨fun a l =>?_,c,o,by simp only;omega,fun j a l =>?_⟩
   ·obtain⟨j,i⟩:=afi l;obtain⟨d,e,f⟩:=m j a i;rcases f with rfl|⟨_,rfl⟩
    ·exact b _ (afo e)
    ·rfl
   ·obtain⟨d,e,f⟩:=m j a l;rcases f with rfl|⟨_,rfl⟩
    ·exact B j _ e
    ·trivial
section
variable {N:Nat} {M:Nat->Prop} {L:jM} {w0:World} {blk:Nat->Option (Nat×Nat)} {V:Nat->Nat->Prop} {t:Nat->D} {h h':Nat->Option Row} {a:Act} {w:World}
def BG (d:Dj h h') {b:Nat} (c:¬Own M h blk b):¬Own M h' blk b:=by
 rintro (a|⟨x,e,g,f,i,j,k⟩)
 ·exact c (.inl a)
 ·obtain⟨r,l,m⟩:=d x e f;exact c (.inr ⟨x,r,g,l,by rw[<- m.same.2.2.1];exact i,j,k⟩)
def Fa (d:Dj h h'):HD w w (Own M h blk) (Own M h' blk) h h' blk blk V V:=⟨fun b a c=>⟨a,BG d c,rfl⟩,fun _ _ h=>h,fun x v _ e a c=>by
 obtain⟨r,f,g⟩:=d x e a;exact⟨⟨r,f,by rw[<- g.same.1];exact c⟩,rfl,fun _ _=>rfl⟩⟩
def Inv.le (d:Inv N M L w0 blk V t h a w) (f:Dj h h'):Inv N M L w0 blk V t h' a w where
 tab:=d.tab.keep fun b A m=>⟨A,BG f m,rfl⟩
 below:=d.below
 mlt:=d.mlt
 lent:=d.lent
 pin go l:=⟨(d.pin go l).1,fun o H I=>by
  obtain⟨r,k,e⟩:=f 0 o H;exact (d.pin go l).2 r k (by rw[<- e.same.1];exact I)⟩
 defers:=d.defers
 tsz:=d.tsz
 slots i:=(d.slots i).mono (Fa f)
 rows x o B:=by
  obtain⟨r,k,e⟩:=f x o B;obtain⟨A,m⟩:=d.rows x r k;refine⟨fun J=>by rw[e.same.1];exact A J,?_⟩;cases G:blk x with
  | none =>
   rw[G]at m;exact e.nil m
  | some g =>
   rw[G]at m;exact⟨m.1,(dV.le m.2 e).keep rfl rfl rfl rfl fun b p q=>⟨p,BG f q,rfl⟩⟩
 inj x y r s g g' B v l C he:=by
  obtain⟨K,k,_⟩:=f x r B;obtain⟨D,e,_⟩:=f y s v;exact d.inj x y K D g g' k e l C he
 big:=d.big
 pha y o g v hm l j x s n O:=by
  obtain⟨r,k,e⟩:=f y o v;obtain⟨P,u,p,q⟩:=d.pha y r g k (by rw[<- e.same.2.2.2.2];exact hm) l j x s n (e.cell O (by intro h;cases h));exact⟨P,u,p,q.mono fun E Q=>by
   obtain⟨D,R,_⟩:=f x E Q;exact⟨⟨D,R⟩,rfl,fun _ _=>rfl⟩⟩
 ali y o g v S F l j c T U z:=by
  obtain⟨r,k,e⟩:=f y o v;obtain⟨u,p,q⟩:=d.ali y r g k (by rw[<- e.same.2.2.1];exact S) (by rw[<- e.same.2.2.2.1];exact F) l j c T (e.cell U (by intro h;subst h;cases z)) z;exact⟨u,p,q.mono (Fa f)⟩
def bn.le {e:Nat} {c:Option Nat} {E:cd} {v:Value} (f:bn N M L w0 V t h a e c E v w) (d:Dj (aW h E.hw) h') :
  ∃b,Inv N M L w0 b (fun x n=>V x n∨(c=some x∧n=e)) t h' a w∧RT w (Own M h' b) h' b (fun x n=>V x n∨(c=some x∧n=e)) E.val v:=by
 obtain⟨b,g,i⟩:=f;exact⟨b,g.le d,i.mono (Fa d)⟩
end
def ka {a:List D} {o:Nat} {d:D} (h:o<a.length):(putCells a o [d]).length=a.length:=jx (show o+1<=a.length from h)
def fG {a:List D} {o:Nat} {d:D} (h:o<a.length):(putCells a o [d])[o]? = some d:=by
 rw[mm (show o+[d].length<=a.length from h)];simp
def gV {a:List D} {o j:Nat} {d:D} (h:o<a.length) (b:j≠o):(putCells a o [d])[j]? = a[j]?:=by
 rw[mm (show o+[d].length<=a.length from h)];split
 ·rfl
 ·rw[if_neg (by simp;omega)]
def Hh:Option Row->Option Row
 | some r=>if r.mp then (match r.cells with | [.nr _ _ _ _]=>none|_=>some r) else some r
 | none=>none
def OK (b c:Nat) (e:Bool):Option Row->D->D
 | some a,.nx n _=>if a.ty=b∧a.v=c∧a.fz=e∧a.lst=true∧a.mp=false then .nx n a.cells else .und
 | none,.nx n _ =>.und
 | _,d=>d
def Gv (a s b:Nat) (e:Bool) (c:List D) (o:Nat) (r:Option Row):Option D->List D
 | some d=>[.nr a s b (putCells c o [OK a b e r d])]
 | none=>[.nr a s b c]
def Gc (o:Nat) (r:Option Row) (q:Row):Row :=
 if q.mp then
  match q.cells with
  | [.nr ty s nv cs]=>{ q with cells:=Gv ty s nv q.fz cs o r (cs.drop o).head? }
  | _=>q
 else q
def Ap (h:Nat->Option Row) (k:Nat) (r:Option Row):Option Row:=@ite _ (k<2*PK) (ltB k (2*PK)) (Hh r) ((h (k % PK)).map (Gc (k / PK-2) r))
def kQ (h:Nat->Option Row):List (Nat×Option Row)->List (Nat×Option Row)
 | []=>[]
 | (k,r)::l=>(rt k,Ap h k r)::kQ (bY h (rt k) (Ap h k r)) l
def By {r:Option Row} {q:Row} {o:Nat} (h:Hh r=some q):r=some q∧sg q o=none∧∀y,Dz y q=q:=by
 unfold Hh at h;split at h
 ·rename_i d;split at h
  ·rename_i a;split at h
   ·cases h
   ·rename_i b;simp only[ae5]at h;subst h;refine⟨rfl,?_,fun y =>?_⟩
    ·unfold sg;rw[if_pos a];unfold I3;split
     ·rename_i c;exact absurd c (b _ _ _ _)
     ·rfl
    ·unfold Dz;rw[if_pos a];have:skL y d.cells=d.cells:=by
      unfold skL;split
      ·rename_i c;exact absurd c (b _ _ _ _)
      ·rfl
     rw[this]
  ·rename_i a;simp only[ae5]at h;subst h;exact⟨rfl,by unfold sg;rw[if_neg a],fun y=>by unfold Dz;rw[if_neg a]⟩
 ·cases h
def Y4 (h:Nat->Option Row) (k:Nat) (r:Option Row):Dj (bY (EH h) k r) (EH (bY h (rt k) (Ap h k r))):=by
 intro z t a
 by_cases Q:k<2*PK
 ·rw[ig Q]at a;unfold Ap at a;rw[if_pos Q]at a
  by_cases i:z<2*PK
  ·rw[s9 i]at a
   by_cases f:z=k
   ·subst f;rw[aA]at a ⊢;rw[aeV]at a;obtain⟨q,U,rfl⟩:=a;obtain⟨R,_,S⟩:=By (o:=0) U;rw[S];exact⟨q,R,.refl _⟩
   ·rw[aC _ _ f]at a ⊢;rw[<- s9 i]at a;exact⟨t,a,.refl _⟩
  ·rw[aC _ _ (by omega)];unfold EH at a;rw[if_neg i]at a
   by_cases f:z % PK=k
   ·rw[f,aA]at a;rw[Option.bind_eq_some_iff]at a;obtain⟨q,U,R⟩:=a;rw[(By (o:=z / PK-2) U).2.1]at R;cases R
   ·rw[aC _ _ f]at a;exact⟨t,by unfold EH;rw[if_neg i];exact a,.refl _⟩
 ·have w:=LV (agD Q);have b:=I2 k;generalize k % PK=x at w b;generalize k / PK-2=o at w;subst w;rw[vf b]at a;have V:Ap h (NK x o) r=(h x).map (Gc o r):=by
   unfold Ap;rw[if_neg Q,ud o b,DM o b]
  rw[V]at a;cases u:h x with
  | none =>
   rw[u]at a;simp only[Option.map_none]at a;have c:EH h z=some t:=by
    rw[<- a];apply ec
    by_cases hzx:rt z=x
    ·rw[hzx,aA,u]
    ·rw[aC _ _ hzx]
   by_cases f:z=NK x o
   ·subst f;rw[s8 b,u]at c;cases c
   ·rw[aC _ _ f];exact⟨t,c,.refl _⟩
  | some q =>
   rw[u]at a;simp only[Option.map_some]at a
   by_cases hzx:rt z=x
   rotate_left
   ·have:EH h z=some t:=by rw[<- a];exact ec (by rw[aC _ _ hzx])
    refine⟨t,?_,.refl _⟩;rw[aC _ _ (fun e=>hzx (by rw[e,vf b]))];exact this
   by_cases y:q.mp=true∧∃A s B m,q.cells=[.nr A s B m]
   rotate_left
   ·have W:Gc o r q=q:=by
     unfold Gc;split
     ·rename_i g;split
      ·rename_i A s B m v;exact absurd ⟨g,_,_,_,_,v⟩ y
      ·rfl
     ·rfl
    rw[W]at a;have c:EH h z=some t:=by
     rw[<- a];exact ec (by rw[hzx,aA,u])
    by_cases f:z=NK x o
    ·subst f;rw[s8 b,u]at c;simp only[Option.bind_some]at c;unfold sg at c;split at c
     ·rename_i g;unfold I3 at c;split at c
      ·rename_i v;exact absurd ⟨g,_,_,_,_,v⟩ y
      ·cases c
     ·cases c
    ·rw[aC _ _ f];exact⟨t,c,.refl _⟩
   obtain⟨g,A,s,B,m,v⟩:=y;have W:Gc o r q = { q with cells:=Gv A s B q.fz m o r (m.drop o).head? }:=by
    unfold Gc;rw[if_pos g,v]
   rw[W]at a;obtain⟨cs',I,X⟩:∃cs':List D,Gv A s B q.fz m o r (m.drop o).head? = [.nr A s B cs']∧cs'.length=m.length∧(∀j,j≠o->cs'[j]? = m[j]?)∧∀C,cs'[o]? = some C->∃d,m[o]? = some d∧C=OK A B q.fz r d:=by
    rw[ahs];cases p:m[o]? with
    | none=>exact⟨m,rfl,rfl,fun _ _=>rfl,fun C l=>by rw[p]at l;cases l⟩
    | some d =>
     have E:=(afp.1 p).1;refine⟨_,rfl,ka E,fun j hj=>gV E hj,fun C l=>⟨d,rfl,?_⟩⟩;rw[fG E]at l;simpa using l.symm
   rw[I]at a;obtain⟨J,K,L⟩:=X
   by_cases i:z<2*PK
   ·rw[ig i]at hzx;subst hzx;rw[s9 i,aA]at a;simp only[Option.map_some,ae5]at a;subst a;rw[aC _ _ (by have:=e9 z o;omega),s9 i,u];refine⟨Dz z q,rfl,.inr (.inl ⟨by rw[(acW z q).2.2.2.2,g],cs'.mapIdx (rP z s),?_,?_,fun j d C p l =>?_⟩)⟩
    ·unfold Dz;simp only[g,if_true,skL]
    ·unfold Dz;simp only[g,if_true,skL,v,aht,J]
    ·unfold Dz at p;simp only[g,if_true,skL,v,ahu,aeV]at p;rw[ahu,aeV]at l;obtain⟨d0,M,rfl⟩:=p;obtain⟨d1,F,rfl⟩:=l
     by_cases N:j=o
     ·subst N;obtain⟨d2,Y,rfl⟩:=L _ F;rw[M]at Y;cases Y;cases d0 with
      | nx n xs =>
       cases r with
       | none=>exact .inr ⟨⟨_,_,_,rfl⟩,rfl⟩
       | some Z =>
        simp only[OK];split
        ·exact .inl rfl
        ·exact .inr ⟨⟨_,_,_,rfl⟩,rfl⟩
      | _=>cases r<;>exact .inl rfl
     ·rw[K j N,M]at F;cases F;exact .inl rfl
   ·have G:=LV (agD i);have O:z % PK=x:=by unfold rt at hzx;rwa [if_neg i]at hzx
    rw[O]at G;generalize z / PK-2=T at G;subst G;rw[s8 b,aA]at a;simp only[Option.bind_some]at a;unfold sg at a;simp only[g,if_true,I3,ahs]at a
    by_cases P:T=o
    ·subst P;rw[aA];cases p:cs'[T]? with
     | none=>rw[p]at a;cases a
     | some C =>
      obtain⟨d,Y,rfl⟩:=L C p;rw[p]at a;cases r with
      | none=>cases d<;>cases a
      | some Z =>
       cases d with
       | nx n xs =>
        simp only[OK]at a;split at a
        ·rename_i H;obtain⟨rfl,rfl,S,h4,h5⟩:=H;simp only[Fw,ae5]at a;subst a;refine⟨Z,rfl,.inl ?_⟩;cases Z;simp only at S h4 h5 ⊢;rw[S,h4,h5]
        ·cases a
       | _=>cases a
    ·have aa:NK x T≠NK x o:=by
      unfold NK;rw[cQ];omega
     rw[aC _ _ aa,s8 b,u];rw[K T P]at a;refine⟨t,?_,.refl _⟩;simp only[Option.bind_some];unfold sg;simp only[g,if_true,v,I3,ahs];exact a
def M7:∀(l:List (Nat×Option Row)) (h:Nat->Option Row),Dj (aW (EH h) l) (EH (aW h (kQ h l)))
 | [],h =>.refl _
 | (k,r)::l,h=>(Dj.apply l (Y4 h k r)).trans (M7 l _)
def bump (a e:Nat):Option Nat:=if a<=4*e then some (4*e+1) else if a=4*e+2 then some (4*e+3) else none
def nrO (r:Row):List D->Option (Row×Nat×Nat×Nat×List D)
 | [.nr ty s nv cs]=>some (r,ty,s,nv,cs)
 | _=>none
def gx (h:Nat->Option Row) (x v:Nat):Option (Row×Nat×Nat×Nat×List D) :=
 match h x with
 | some r=>if r.v=v∧r.fz=false∧r.mp=true∧x<PK then nrO r r.cells else none
 | none=>none
def iD {h:Nat->Option Row} {x v:Nat} {r:Row} {c s d:Nat} {e:List D} (a:gx h x v=some (r,c,s,d,e)):h x=some r∧r.v=v∧r.fz=false∧r.mp=true∧x<PK∧r.cells=[.nr c s d e]:=by
 unfold gx at a;split at a
 ·rename_i m f;split at a
  ·rename_i g;obtain⟨i,j,k,l⟩:=g;unfold nrO at a;split at a
   ·rename_i b;simp only[ae5,Prod.mk.injEq]at a;obtain⟨rfl,rfl,rfl,rfl,rfl⟩:=a;exact⟨f,i,j,k,l,b⟩
   ·cases a
  ·cases a
 ·cases a
def fa {d:D} (a:fD d=true):bz d=true∧phC d=true∧∀ {w:World} {M:Nat->Prop} {u:Value},DN w M d u↔RP w M d u:=by
 cases d<;>first|exact⟨rfl,rfl,Iff.rfl⟩|cases a
def Vs:D->D
 | .nx n xs =>.sl false false n xs
 | d=>d
def fJ {h:Nat->Option Row} {x:Nat} {r:Row} {b s c:Nat} {a:List D} (d:h x=some r) (e:r.mp=true) (f:r.cells=[.nr b s c a]) (g:x<PK):EH h x=some ⟨r.v,r.ty,a.mapIdx (rP x s),r.fz,r.lst,true⟩:=by
 rw[s9 (by have:=cQ;omega),d];simp only[Option.map_some,Dz,e,if_true,f,skL]
def eL {h:Nat->Option Row} {x:Nat} {r:Row} {a s b:Nat} {c:List D} (d:h x=some r) (e:r.mp=true) (f:r.cells=[.nr a s b c]) (g:x<PK) (o:Nat):EH h (NK x o)=Fw a b r.fz c[o]?:=by
 rw[s8 g,d];simp only[Option.bind_some,sg,e,if_true,f,I3,ahs]
def uc {x a o b:Nat} (d:x<PK) (c:a<PK) (h:NK x o=NK a b):x=a∧o=b:=by
 unfold NK at h;rw[cQ]at *;omega
def HE (w:World) (blk:Nat->Option (Nat×Nat)) (k s n:Nat) (u:Value):Prop :=
 (∃g c a b,blk k=some g∧u=.slice (some ⟨g.1,g.2,none⟩) n c∧c*s+g.2=a∧n<=c∧c<=maxLen∧w.shape? g.1=some (b,a))∨(blk k=none∧n=0∧∃A,u=.slice A 0 0)
section
variable {P:Program} {T:Nat->Option Ty} {N:Nat} {M:Nat->Prop} {L:jM} {w0:World} {blk:Nat->Option (Nat×Nat)} {V:Nat->Nat->Prop} {t:Nat->D} {h:Nat->Option Row} {a:Act} {w:World} {e:Nat} {o:Oper} {Γ:Env}
def Inv.Cx (m:Inv N M L w0 blk V t (EH h) a w) {x:Nat} {r:Row} {n s o:Nat} {e:List D} {g:Nat×Nat} (p:h x=some r) (q:r.mp=true) (u:r.cells=[.nr n s o e]) (v:x<PK) (y:blk x=some g) :
  ∃b:Array Value,w.heap[g.1]? = some (.cells b r.ty (0,0))∧g.2+e.length<=b.size∧∀(j:Nat) d,e[j]? = some d->fD d=true->RP w (Own M (EH h) blk) d (b.getD (g.2+j) undef):=by
 have c:=m.rowIs (fJ p q u v) y;unfold dV at c;simp only at c;rcases c with⟨E,F,f,_⟩|⟨f,b,z,k,A⟩
 ·exfalso;simp only at f;have B:e.length=1:=by
   have:=congrArg List.length f;simpa using this
  match e,B with
  | [d],_ =>
   simp only[List.mapIdx_cons,List.mapIdx_nil,afk,and_true]at f;have:=lP x s 0 d;rw[f]at this;cases this
 ·simp only[aht]at k;refine⟨b,z,k,fun j d C l =>?_⟩;have i:(e.mapIdx (rP x s))[j]? = some d:=by rw[ahu,C];exact congrArg some (kh l)
  exact (fa l).2.2.1 (A j _ i)
def Inv.Fz (k:Inv N M L w0 blk V t (EH h) a w) {x:Nat} {r:Row} {l s m n o:Nat} {b p:List D} {g:Nat×Nat} (c:h x=some r) (d:r.mp=true) (e:r.cells=[.nr l s m b]) (f:x<PK) (q:blk x=some g) (i:b[o]? = some (.nx n p)) :
  ∃u,w.cell? ⟨g.1,g.2+o,none⟩=some u∧HE w blk (NK x o) s n u:=by
 obtain⟨_,u,v,y⟩:=k.pha x _ g (fJ c d e f) rfl q o (NK x o) s n (by simp only[ahu,i,Option.map_some,rP]);have j:=eL c d e f o;rw[i]at j;exact⟨u,v,y _ j⟩
def YP:D->D->D
 | .nx n _,.nx _ a =>.nx n a
 | .nx _ _,_ =>.und
 | d,_=>d
def wH (b a:List D):List D:=List.zipWith YP b a
def pF {x k:Nat} (b:rt k=x):k=x∨∃o,k=NK x o:=by
 by_cases a:k<2*PK
 ·rw[ig a]at b;exact .inl b
 ·have:=LV (agD a);unfold rt at b;rw[if_neg a]at b;rw[b]at this;exact .inr ⟨_,this⟩
def aa7 (b a:List D) (j:Nat):(wH b a)[j]? = match b[j]?,a[j]? with|some d,some c=>some (YP d c)|_,_=>none:=by
 unfold wH;rw[List.getElem?_zipWith];cases b[j]?<;>cases a[j]?<;>rfl
def Q3 {x:Nat} {r:Row} {B s C:Nat} {c a:List D} (N:h x=some r) (O:r.mp=true) (P:r.cells=[.nr B s C c]) (Q:r.fz=false) (E:x<PK) (q:a.length=c.length)
  (H:∀(j:Nat) F e,a[j]? = some (.nx F e)->∃n G k,c[j]? = some (.nx n G)∧e=G.take k):Dj (EH h) (EH (bY h x (some ⟨r.v,r.ty,[.nr B s C (wH c a)],false,r.lst,true⟩))):=by
 have g:=aa7 c a;have I:(wH c a).length=c.length:=by simp[wH,q]
 have t:∀(j:Nat) d,c[j]? = some d->∃p,a[j]? = some p:=by
  intro j d J;have:=(afp.1 J).1;exact⟨_,ae9 (by omega)⟩
 have R:∀(j:Nat) p,a[j]? = some p->∃d,c[j]? = some d:=by
  intro j d J;have:=(afp.1 J).1;exact⟨_,ae9 (by omega)⟩
 generalize S:bY h x (some ⟨r.v,r.ty,[.nr B s C (wH c a)],false,r.lst,true⟩)=hh;have u:hh x=some ⟨r.v,r.ty,[.nr B s C (wH c a)],false,r.lst,true⟩:=by rw[<- S,aA]
 have v:∀y,y≠x->hh y=h y:=fun y K=>by rw[<- S,aC _ _ K]
 have L:∀ {h1 T:Nat->Option Row},(∀y,y≠x->h1 y=T y)->∀k,rt k≠x->EH h1 k=EH T k:=fun V k b=>ec (V _ b);have w:∀k,rt k=x->k=x∨∃o,k=NK x o:=by
  intro k b
  by_cases l:k<2*PK
  ·rw[ig l]at b;exact .inl b
  ·have:=LV (agD l);unfold rt at b;rw[if_neg l]at b;rw[b]at this;exact .inr ⟨_,this⟩
 intro k W b
 by_cases z:rt k=x
 rotate_left
 ·exact⟨W,by rw[<- b];exact L (fun y K=>(v y K).symm) k z,.refl _⟩
 rcases w k z with rfl|⟨o,rfl⟩
 ·rw[fJ u rfl rfl E]at b;simp only[ae5]at b;subst b;refine⟨_,fJ N O P E,.inr (.inl ⟨rfl,(wH c a).mapIdx (rP k s),by rw[Q],by simp[I],fun j d p i f =>?_⟩)⟩;simp only[ahu,aeV]at i f;obtain⟨d0,A,rfl⟩:=i;obtain⟨d1,m,rfl⟩:=f;obtain⟨d2,M⟩:=t j d0 A;rw[g,A,M]at m;simp only[ae5]at m;subst m;cases d0 with
  | nx n G =>
   cases d2 with
   | nx F e=>exact .inl rfl
   | _=>exact .inr ⟨⟨_,_,_,rfl⟩,rfl⟩
  | _=>exact .inl rfl
 ·rw[eL u rfl rfl E,g]at b;cases i:c[o]? with
  | none=>rw[i]at b;cases b
  | some d =>
   obtain⟨p,f⟩:=t o d i;rw[i,f]at b;cases d with
   | nx n G =>
    cases p with
    | nx F e =>
     obtain⟨Z,X,k,U,Y⟩:=H o F e f;rw[i]at U;cases U;simp only[YP,Fw,ae5]at b;subst b;refine⟨_,by rw[eL N O P E,i];rfl,.inr (.inr ⟨rfl,k,by rw[Y,Q]⟩)⟩
    | _=>cases b
   | _=>cases b
def Inv.Gv (hI:Inv N M L w0 blk V t (EH h) a w) {x:Nat} {r:Row} {v s z:Nat} {c cs':List D} (hx:h x=some r) (hm:r.mp=true) (hc:r.cells=[.nr v s z c]) (hz:r.fz=false) (C:x<PK) (m:cs'.length=c.length) {w':World}
  (aa:w'.os=w.os) (E:w'.tape=w.tape) (J:w'.output=w.output) (F:w.heap.size<=w'.heap.size) (G:∀b,b<w.heap.size->(∀g,blk x=some g->b≠g.1)->w'.heap[b]? = w.heap[b]?)
  (K:∀(j:Nat) A i,cs'[j]? = some (.nx A i)->∃n xs k,c[j]? = some (.nx n xs)∧i=xs.take k)
  (p:∀g,blk x=some g->w'.shape? g.1=w.shape? g.1∧∃f:Array Value,w'.heap[g.1]? = some (.cells f r.ty (0,0))∧g.2+c.length<=f.size∧∀(j:Nat) d,cs'[j]? = some d ->
   (fD d=true->RP w' (Own M (EH (bY h x (some ⟨r.v,r.ty,[.nr v s z (wH c cs')],false,r.lst,true⟩))) blk) d (f.getD (g.2+j) undef))∧∀A i,d=.nx A i->HE w blk (NK x j) s A (f.getD (g.2+j) undef)) :
  Inv N M L w0 blk V t (EH (bY h x (some ⟨r.v,r.ty,[.nr v s z cs'],false,r.lst,true⟩))) a w':=by
 have O:∀(j:Nat),(wH c cs')[j]? = match c[j]?,cs'[j]? with|some d,some B=>some (YP d B)|_,_=>none:=by
  intro j;unfold wH;rw[List.getElem?_zipWith];cases c[j]?<;>cases cs'[j]?<;>rfl
 have ag:(wH c cs').length=c.length:=by simp[wH,m]
 have ah:∀(j:Nat) d,c[j]? = some d->∃B,cs'[j]? = some B:=by
  intro j d l;have:=(afp.1 l).1;exact⟨_,ae9 (by omega)⟩
 have P:∀(j:Nat) B,cs'[j]? = some B->∃d,c[j]? = some d:=by
  intro j d l;have:=(afp.1 l).1;exact⟨_,ae9 (by omega)⟩
 generalize hD:bY h x (some ⟨r.v,r.ty,[.nr v s z (wH c cs')],false,r.lst,true⟩)=hh at p;have Q:hh x=some ⟨r.v,r.ty,[.nr v s z (wH c cs')],false,r.lst,true⟩:=by rw[<- hD,aA]
 have R:∀y,y≠x->hh y=h y:=fun y X=>by rw[<- hD,aC _ _ X]
 have ab:∀ {h1 Y:Nat->Option Row},(∀y,y≠x->h1 y=Y y)->∀k,rt k≠x->EH h1 k=EH Y k:=fun he k H=>ec (he _ H);have S:∀k,rt k=x->k=x∨∃o,k=NK x o:=by
  intro k H
  by_cases I:k<2*PK
  ·rw[ig I]at H;exact .inl H
  ·have:=LV (agD I);unfold rt at H;rw[if_neg I]at H;rw[H]at this;exact .inr ⟨_,this⟩
 have ad:Dj (EH h) (EH hh):=by rw[<- hD];exact Q3 hx hm hc hz C m K
 have hA:=hI.le ad;have hB:=hA.kg (x:=x) (r:=⟨r.v,r.ty,(wH c cs').mapIdx (rP x s),false,r.lst,true⟩) (r0:=⟨r.v,r.ty,cs'.mapIdx (rP x s),false,r.lst,true⟩) (w':=w') (fJ Q rfl rfl C) rfl rfl aa E J F G (by
   cases hb:blk x with
   | none =>
    have:=(hI.rows x _ (fJ hx hm hc C)).2;rw[hb]at this;have h1:c.mapIdx (rP x s)=[]:=this;have Y:c.length=0:=by
     have:=congrArg List.length h1;simpa using this
    show cs'.mapIdx (rP x s)=[];rw[aga (m.trans Y)];rfl
   | some g =>
    obtain⟨k1,f,k2,k3,k4⟩:=p g hb;refine⟨k1,.inr ⟨fun d Z =>?_,f,k2,by simp only[aht];omega,fun j d l =>?_⟩⟩
    ·obtain⟨j,l⟩:=afi Z;simp only[ahu,aeV]at l;obtain⟨d0,q,rfl⟩:=l;exact lP _ _ _ _
    ·simp only[ahu,aeV]at l;obtain⟨d0,q,rfl⟩:=l
     by_cases u:fD d0=true
     ·rw[kh u];exact (fa u).2.2.2 ((k4 j d0 q).1 u)
     ·cases d0<;>first|trivial|exact absurd rfl u) (fun h=>by cases h) (fun _ g hg j x' s' A l=>by
   obtain⟨k1,f,k2,k3,k4⟩:=p g hg;simp only[ahu,aeV]at l;obtain⟨d0,q,he⟩:=l;obtain⟨ae,rfl,rfl,rfl⟩:=rG he;have ai:=(afp.1 q).1;exact⟨⟨C,.inr rfl⟩,_,bd k2 (by omega),fun _ _=>(k4 j _ q).2 A ae rfl⟩)
 have T:bY (EH hh) x (some (⟨r.v,r.ty,cs'.mapIdx (rP x s),false,r.lst,true⟩:Row))=EH (bY h x (some ⟨r.v,r.ty,[.nr v s z cs'],false,r.lst,true⟩)):=by
  have U:bY h x (some (⟨r.v,r.ty,[.nr v s z cs'],false,r.lst,true⟩:Row)) x=some ⟨r.v,r.ty,[.nr v s z cs'],false,r.lst,true⟩:=aA _ _ _;funext k
  by_cases hkx:rt k=x
  rotate_left
  ·rw[aC _ _ (fun e=>hkx (by rw[e,ig (by have:=cQ;omega)]))];exact ab (fun y X=>by rw[R y X,aC _ _ X]) k hkx
  rcases S k hkx with rfl|⟨o,rfl⟩
  ·rw[aA,fJ U rfl rfl C]
  ·rw[aC _ _ (by have:=e9 x o;have:=cQ;omega),eL Q rfl rfl C,eL U rfl rfl C,O];cases W:cs'[o]? with
   | none=>cases c[o]?<;>rfl
   | some B =>
    obtain⟨d,Z⟩:=P o B W;rw[Z];cases B with
    | nx A i =>
     obtain⟨n0,aj,k,e1,_⟩:=K o A i W;rw[Z]at e1;cases e1;rfl
    | _=>cases d<;>rfl
 rw[<- T];exact hB
def Inv.acL (m:Inv N M L w0 blk V t h a w) (S:Nat->Prop) (J:Nat) (K:∀k,S k->N<=k∧k≠0∧¬V k J) {h':Nat->Option Row} (he:∀k,S k->h' k=(h k).map fun r=>{ r with v:=J }) (O:∀k,¬S k->h' k=h k):Inv N M L w0 blk V t h' a w:=by
 have B:∀x r',h' x=some r'->∃r,h x=some r∧r' = { r with v:=r'.v }∧(¬S x->r'=r)∧(S x->r'.v=J):=by
  intro x r' z
  by_cases o:S x
  ·rw[he x o,aeV]at z;obtain⟨r,p,rfl⟩:=z;exact⟨r,p,rfl,fun P=>absurd o P,fun _=>rfl⟩
  ·rw[O x o]at z;exact⟨r',z,rfl,fun _=>rfl,fun h=>absurd h o⟩
 have d:∀ {r r':Row},r' = { r with v:=r'.v }->r'.ty=r.ty∧r'.cells=r.cells∧r'.fz=r.fz∧r'.lst=r.lst∧r'.mp=r.mp:=by
  intro r r' h;rw[h];exact⟨rfl,rfl,rfl,rfl,rfl⟩
 have Q:∀b,¬Own M h blk b->¬Own M h' blk b:=by
  intro b D C;rcases C with C|⟨x,r',g,z,R,A,e⟩
  ·exact D (.inl C)
  ·obtain⟨r,p,f,_⟩:=B x r' z;exact D (.inr ⟨x,r,g,p,by rw[<- (d f).2.2.1];exact R,A,e⟩)
 have E:HD w w (Own M h blk) (Own M h' blk) h h' blk blk V V:=⟨fun b p f=>⟨p,Q b f,rfl⟩,fun _ _ h=>h,fun x v T r' p f=>by
  obtain⟨r,q,l,F,U⟩:=B x r' p
  by_cases o:S x
  ·rw[U o]at f;subst f;exact absurd T (K x o).2.2
  ·obtain rfl:=F o;exact⟨⟨r',q,f⟩,rfl,fun _ _=>rfl⟩⟩
 exact {
  tab:=m.tab.keep fun b p f=>⟨p,Q b f,rfl⟩
  below:=m.below
  mlt:=m.mlt
  lent:=m.lent
  pin:=fun go A=>⟨(m.pin go A).1,fun r' hr T=>by
   obtain⟨r,q,l,F,U⟩:=B 0 r' hr;obtain rfl:=F (fun o=>(K 0 o).2.1 rfl);exact (m.pin go A).2 r' q T⟩
  defers:=m.defers
  tsz:=m.tsz
  slots:=fun i=>(m.slots i).mono E
  rows:=fun x r' z=>by
   obtain⟨r,q,l,F,U⟩:=B x r' z;obtain⟨p,f⟩:=m.rows x r q;refine⟨fun P =>?_,?_⟩
   ·obtain rfl:=F (fun o=>by have:=(K x o).1;omega);exact p P
   ·cases D:blk x with
    | none=>rw[D]at f;exact (d l).2.1.trans f
    | some g =>
     rw[D]at f;exact⟨f.1,f.2.keep (d l).2.1 (d l).1 (d l).2.2.2.2 rfl fun b G H=>⟨G,Q b H,rfl⟩⟩
  inj:=fun x y r s g g' z I A W e=>by
   obtain⟨r1,q,_⟩:=B x r z;obtain⟨X,l,_⟩:=B y s I;exact m.inj x y r1 X g g' q l A W e
  big:=m.big
  pha:=fun y r' g I hm A j x s n hc=>by
   obtain⟨r,q,l,_⟩:=B y r' I;obtain⟨h0,u,G,H⟩:=m.pha y r g q (by rw[<- (d l).2.2.2.2];exact hm) A j x s n (by rw[<- (d l).2.1];exact hc);exact⟨h0,u,G,H.mono fun Y q3=>by
    obtain⟨X,q4,_⟩:=B x Y q3;exact⟨⟨X,q4⟩,rfl,fun _ _=>rfl⟩⟩
  ali:=fun y r' g I R Z A j c d' hj aa=>by
   obtain⟨r,q,l,_⟩:=B y r' I;obtain⟨u,G,H⟩:=m.ali y r g q (by rw[<- (d l).2.2.1];exact R) (by rw[<- (d l).2.2.2.1];exact Z) A j c d' (by rw[<- (d l).2.1];exact hj) aa;exact⟨u,G,H.mono E⟩ }
end
def NR (τ:Ty) (x s b o:Nat) (a:List D):Option D->Option cd
 | some (.nx n xs)=>if τ.size=1∧τ.ds.tw=false then some ⟨.buf (NK x o) b s 0 n,[]⟩ else none
 | some _=>if o+τ.size<=a.length∧((a.drop o).take τ.size).all fD=true then (match j0 τ ((a.drop o).take τ.size) with|some d=>some ⟨d,[]⟩|none=>none) else none
 | none=>none
def qU (τ:Ty) (h:Nat->Option Row):D->Option cd
 | .ptr x v o =>
  match gx h x v with
  | some (r,ty,s,nv,cs)=>NR τ x s nv o cs (cs.drop o).head?
  | none=>none
 | _=>none
def Li (x:Nat) (r:Row) (b s c:Nat) (d:List D) (o n:Nat):Option D->Option cd
 | some (.nx e a)=>if n*s<=a.length then some ⟨.und,[(x,some ⟨r.v,r.ty,[.nr b s c (putCells d o [.nx n (a.take (n*s))])],false,r.lst,true⟩)]⟩ else none
 | _=>none
def BN (x:Nat) (r:Row) (b s:Nat) (c:List D) (o y n:Nat) (q:Row):Option Nat->Option cd
 | some a=>some ⟨.und,[(y,none),(x,some ⟨r.v,r.ty,[.nr b s a (putCells c o [.nx n q.cells])],false,r.lst,true⟩)]⟩
 | none=>none
def plV:D->Option (List D)
 | .agg xs=>some xs
 | .int k n=>some [.int k n]
 | .bool b=>some [.bool b]
 | .str s=>some [.str s]
 | .sl a b n xs=>some [.sl a b n xs]
 | _=>none
def Lj (τ:Ty) (x:Nat) (r:Row) (b s c:Nat) (d:List D) (o:Nat):Option (List D)->Option cd
 | some a=>if a.length=τ.size∧a.all fD=true then some ⟨.und,[(x,some ⟨r.v,r.ty,[.nr b s c (putCells d o (a.map canon))],false,r.lst,true⟩)]⟩ else none
 | none=>none
def Hv (τ:Ty) (e:Nat) (h:Nat->Option Row) (x:Nat) (r:Row) (a s b:Nat) (c:List D) (o:Nat):D->Option cd
 | .buf y f g i n =>
  if τ.size=1∧g=s∧i=0 then
   if y=NK x o then (if f=b then Li x r a s b c o n (c.drop o).head? else none)
   else if y<PK then
    match live h y f with
    | some q=>if q.fz=false∧q.lst=true∧q.ty=a∧q.cells.length=n*s then BN x r a s c o y n q (bump b e) else none
    | none=>none
   else none
  else none
 | d=>Lj τ x r a s b c o (plV d)
def nP (τ:Ty) (e:Nat) (h:Nat->Option Row) (p d:D):Option cd :=
 match p with
 | .ptr x v o =>
  match gx h x v with
  | some (r,b,s,c,a)=>if o+τ.size<=a.length∧0<τ.size then Hv τ e h x r b s c a o d else none
  | none=>none
 | _=>none
section
variable {P:Program} {T:Nat->Option Ty} {N:Nat} {M:Nat->Prop} {L:jM} {w0:World} {blk:Nat->Option (Nat×Nat)} {V:Nat->Nat->Prop} {t:Nat->D} {h:Nat->Option Row} {a:Act} {w:World} {e:Nat} {o:Oper} {Γ:Env}
def jK (N:Nat) (M:Nat->Prop) (L:jM) (w0:World) (V:Nat->Nat->Prop) (t:Nat->D) (h:Nat->Option Row) (a:Act) (e:Nat) (c:Option Nat) (E:cd) (v:Value) (d:World):Prop :=
 ∃b,Inv N M L w0 b (fun x n=>V x n∨(c=some x∧n=e)) t (EH (aW h E.hw)) a d ∧
  RT d (Own M (EH (aW h E.hw)) b) (EH (aW h E.hw)) b (fun x n=>V x n∨(c=some x∧n=e)) E.val v
def VNr (V:Nat->Nat->Prop) (h:Nat->Option Row):Prop:=∀x r b s a c,h x=some r->r.mp=true->r.cells=[.nr b s a c]->x<PK->∀o,V (NK x o) a
def Wo (S:iI P T) (m:Inv N M L w0 blk V t (EH h) a w) (F:VNr V h) {G:Nat} {p:Operand} {τ:Ty} {E:cd} (U:o.op=.load G p) (W:T G=some τ) (b:qU τ h (ev t p)=some E):dZ P o a w (jK N M L w0 V t h a e o.dst E):=by
 have hp:=m.ev p;generalize ev t p=q at *;unfold qU at b;split at b<;>try (cases b;done)
 rename_i x v c;split at b<;>try (cases b;done)
 rename_i r H s nv I hl;obtain⟨B,hv,hz,C,i,D⟩:=iD hl;have J:=fJ B C D i;obtain⟨g,X,y⟩:=hp.2 _ J hv;rw[ahs]at b;unfold NR at b;split at b
 ·rename_i n xs hn;split at b<;>try (cases b;done)
  rename_i f;obtain⟨Y,K⟩:=f;simp only[ae5]at b;subst b;obtain⟨u,h1,h2⟩:=m.Fz B C D i X hn;have l:=kO (S G τ W) w g.1 (g.2+c) [u] (by simpa using Y.symm) (fun j v k=>by
   cases j with
   | zero=>simp only[List.getElem?_cons_zero,ae5]at k;subst k;simpa using h1
   | succ j=>simp at k) (fun _=>rfl)
  rw[K]at l;refine aN (v:=u) (w':=w) ?_ ?_
  ·simp[execOp,U,Instr.loadAt,Instr.sureAddr,y,l]
  ·refine bn.dO (h:=EH h) m ⟨F x r H s nv I B C D i c,fun r' Z k2 =>?_⟩;rcases h2 with⟨g',c',N',t',O,rfl,Q,q4,q5,q6⟩|⟨O,rfl,Q⟩
   ·exact .inl ⟨g',g'.2,c',N',t',O,rfl,fun _=>⟨rfl,Q⟩,q4,q5,q6⟩
   ·exact .inr ⟨O,rfl,Q⟩
 ·rename_i d0 aa ab;split at b<;>try (cases b;done)
  rename_i f;obtain⟨Y,K⟩:=f;split at b<;>try (cases b;done)
  rename_i d hd;simp only[ae5]at b;subst b;have R:At w (Own M (EH h) blk) g.1 (g.2+c) ((I.drop c).take τ.size):=by
   intro j d1 k;have z:=ae7.1 K d1 (afo k);have A:I[c+j]? = some d1:=by
    rw[afc]at k;split at k
    ·rwa [afd]at k
    ·cases k
   obtain⟨ad,Z,k2,k3⟩:=m.Cx B C D i X;have ae:=(afp.1 A).1;refine⟨(fa z).1,_,?_,k3 _ _ A z⟩;rw[afh];exact bd Z (by omega)
  exact rZ S m U W y R (by simp;omega) hd
 ·cases b
def Em (hT:iI P T) (hI:Inv N M L w0 blk V t (EH h) a w) {ty y c C s nv:Nat} {p x:Operand} {τ:Ty} {r:Row} {v cs':List D} {us:List Value} {g:Nat×Nat} (ho:o.op=.store ty p x) (hτ:T ty=some τ)
  (H:h y=some r) (I:r.mp=true) (J:r.cells=[.nr C s nv v]) (hz:r.fz=false) (l:y<PK) (K:blk y=some g) (ab:a.eval p=.pointer (some ⟨g.1,g.2+c,none⟩)) (O:(a.eval x).cells.toList=us) (ad:us.length=τ.size) (al:c+τ.size<=v.length) (h1:∀u∈us,u.oneCell'=true)
  (z:cs'.length=v.length) (Q:∀(j:Nat) R m,cs'[j]? = some (.nx R m)->∃n xs k,v[j]? = some (.nx n xs)∧m=xs.take k) (S:∀j,(j<c∨c+τ.size<=j)->cs'[j]? = v[j]?)
  (ae:∀(j:Nat) d,j<τ.size->cs'[c+j]? = some d->(fD d=true->RP w (Own M (EH h) blk) d (us.getD j undef))∧∀R m,d=.nx R m->HE w blk (NK y (c+j)) s R (us.getD j undef)) :
  dZ P o a w (jK N M L w0 V t h a e o.dst ⟨.und,[(y,some ⟨r.v,r.ty,[.nr C s nv cs'],false,r.lst,true⟩)]⟩):=by
 obtain⟨f,k1,k2,k3⟩:=hI.Cx H I J l K;have q:=run_storeCells_at P g.1 (g.2+c) r.ty us 0 f w k1 (by omega) h1;rw[afw]at q;have U:(f.toList.take (g.2+c)++us++f.toList.drop (g.2+c+us.length)).toArray.size=f.size:=by simp;omega
 have A:∀j,j<v.length->(f.toList.take (g.2+c)++us++f.toList.drop (g.2+c+us.length)).toArray.getD (g.2+j) undef=if j<c then f.getD (g.2+j) undef else if j<c+us.length then us.getD (j-c) undef else f.getD (g.2+j) undef:=by
  intro j F;rw[sH f us (g.2+c) (g.2+j) (by omega)]
  by_cases W:j<c
  ·rw[if_pos (by omega),if_pos W]
  ·rw[if_neg (by omega),if_neg W]
   by_cases X:j<c+us.length
   ·rw[if_pos (by omega),if_pos X];congr 1;omega
   ·rw[if_neg (by omega),if_neg X]
 generalize an:(f.toList.take (g.2+c)++us++f.toList.drop (g.2+c+us.length)).toArray=arr' at q U A;have B:(w.setRow g.1 arr').heap[g.1]? = some (.cells arr' r.ty (0,0)):=setRow_heap w g.1 f arr' r.ty (0,0) k1;have Y:(w.setRow g.1 arr').heap.size=w.heap.size:=by simp[World.setRow]
 have hheap:∀b,b≠g.1->(w.setRow g.1 arr').heap[b]? = w.heap[b]?:=by
  intro b hb;simp only[World.setRow,ae6];rw[if_neg (Ne.symm hb)]
 have Z:Own M (EH h) blk g.1 := .inr ⟨y,_,g,fJ H I J l,hz,K,rfl⟩;have ag:=Q3 H I J hz l z Q;have hkeep:∀ {d:D} {u:Value},RP w (Own M (EH h) blk) d u->RP (w.setRow g.1 arr') (Own M (EH (bY h y (some ⟨r.v,r.ty,[.nr C s nv (wH v cs')],false,r.lst,true⟩))) blk) d u:=fun hr=>hr.keep fun b G q2=>⟨by rw[Y];exact G,BG ag q2,hheap b (fun e=>q2 (e ▸ Z))⟩;have hS:=hI.Gv (cs':=cs') (w':=w.setRow g.1 arr') H I J hz l z rfl rfl rfl (by rw[Y];exact aeX _) (fun b _ hb=>hheap b (hb g K)) Q (fun g' aa=>by
  rw[K]at aa;cases aa;refine⟨by simp[World.shape?,B,k1,U],arr',B,by omega,fun j d F =>?_⟩;have ah:j<v.length:=by
   have:=(afp.1 F).1;omega
  rw[A j ah]
  by_cases ak:c<=j∧j<c+τ.size
  ·rw[if_neg (by omega),if_pos (by omega)];obtain⟨i,rfl⟩:∃i,j=c+i:=⟨j-c,by omega⟩;rw[agf];obtain⟨G,q2⟩:=ae i d (by omega) F;exact⟨fun hd=>hkeep (G hd),q2⟩
  ·have ai:(if j<c then f.getD (g.2+j) undef else if j<c+us.length then us.getD (j-c) undef else f.getD (g.2+j) undef)=f.getD (g.2+j) undef:=by
    split
    ·rfl
    ·rw[if_neg (by omega)]
   rw[ai];rw[S j (by omega)]at F;refine⟨fun hd=>hkeep (k3 j d F hd),fun R m he =>?_⟩;subst he;obtain⟨u,G,q2⟩:=hI.Fz H I J l K F;rw[bd k1 (by omega)]at G;cases G;exact q2)
 refine .inr (.inl ⟨w.setRow g.1 arr',?_,blk,?_,trivial⟩)
 ·have aj:(a.eval x).cells.size=τ.size:=by rw[<- ad,<- O];simp
  have E:(storeCells ⟨g.1,g.2+c,none⟩ (a.eval x).cells.toList 0).run P w=.ok () (w.setRow g.1 arr'):=by rw[O];exact q
  simp[execOp,ho,Instr.storeAt,Instr.sureAddr,ab,storeVar,run_sizeOf (hT ty τ hτ),aj,E]
 ·exact hS.weaken fun _ _ h =>.inl h
def Av {g:Nat×Nat} {a arr':Array Value} {c:Nat} (d:w.heap[g.1]? = some (.cells a c (0,0))):(w.setRow g.1 arr').heap[g.1]? = some (.cells arr' c (0,0))∧(w.setRow g.1 arr').heap.size=w.heap.size∧∀b,b≠g.1->(w.setRow g.1 arr').heap[b]? = w.heap[b]?:=by
 refine⟨setRow_heap w g.1 a arr' c (0,0) d,by simp[World.setRow],fun b e =>?_⟩;simp only[World.setRow,ae6];rw[if_neg (Ne.symm e)]
def Inv.aer (E:Inv N M L w0 blk V t (EH h) a w) {y c p s H:Nat} {r:Row} {o:List D} (x:h y=some r) (z:r.mp=true) (A:r.cells=[.nr p s H o]) (I:r.fz=false) (i:y<PK) (l:c<o.length) :
  Inv N M L w0 blk V t (EH (bY h y (some ⟨r.v,r.ty,[.nr p s H (putCells o c [.und])],false,r.lst,true⟩))) a w:=by
 have e:∀(j:Nat) d,(putCells o c [.und])[j]? = some d->d=.und∨o[j]? = some d:=by
  intro j d m
  by_cases q:j=c
  ·subst q;rw[fG l]at m;cases m;exact .inl rfl
  ·rw[gV l q]at m;exact .inr m
 have v:∀(j:Nat) B f,(putCells o c [.und])[j]? = some (.nx B f)->∃n J k,o[j]? = some (.nx n J)∧f=J.take k:=by
  intro j B f m;rcases e j _ m with h|h
  ·cases h
  ·exact⟨B,f,f.length,h,by simp⟩
 refine E.Gv x z A I i (ka l) rfl rfl rfl (aeX _) (fun _ _ _=>rfl) v (fun g K =>?_);obtain⟨F,O,Q,R⟩:=E.Cx x z A i K;refine⟨rfl,F,O,Q,fun j d m=>⟨fun P =>?_,fun B f S =>?_⟩⟩
 ·rcases e j d m with h|h
  ·subst h;cases P
  ·exact (R j d h P).keep fun b C G=>⟨C,BG (Q3 x z A I i (ka l) v) G,rfl⟩
 ·subst S;rcases e j _ m with h|h
  ·cases h
  ·obtain⟨u,C,G⟩:=E.Fz x z A i K h;have T:=(afp.1 h).1;rw[bd O (by omega)]at C;cases C;exact G
def MS (hT:iI P T) (hI:Inv N M L w0 blk V t (EH h) a w) {ty y c F s nv G B n:Nat} {p x:Operand} {τ:Ty} {r q:Row} {H:List D} {K:Value} {g:Nat×Nat} (ho:o.op=.store ty p x) (hτ:T ty=some τ) (c1:τ.size=1)
  (hx:h y=some r) (hm:r.mp=true) (hc:r.cells=[.nr F s nv H]) (Z:r.fz=false) (f:y<PK) (hg:blk y=some g) (aH:a.eval p=.pointer (some ⟨g.1,g.2+c,none⟩)) (i:c<H.length)
  (aj:h B=some q) (ar:B<PK) (au:q.fz=false) (aO:q.lst=true) (aa:q.mp=false) (aI:q.ty=F) (hu:(a.eval x).cells = #[K]) (av:K.oneCell'=true) (aw:HE w blk B s n K) (hV:∀o,¬V (NK y o) G) :
  dZ P o a w (jK N M L w0 V t h a e o.dst ⟨.und,[(B,none),(y,some ⟨r.v,r.ty,[.nr F s G (putCells H c [.nx n q.cells])],false,r.lst,true⟩)]⟩):=by
 have aP:=cQ;have aN:=hI.big;have S:B≠y:=by
  rintro rfl;rw[aj]at hx;cases hx;rw[aa]at hm;cases hm
 have hK:∀o,NK y o≠y∧NK y o≠B∧2*PK<=NK y o:=fun o=>by have:=e9 y o;omega
 obtain⟨E,k1,k2,k3⟩:=hI.Cx hx hm hc f hg;have U:=run_storeCells_at P g.1 (g.2+c) r.ty [K] 0 E w k1 (by simp;omega) (fun v hv=>by
  simp only[afj]at hv;subst hv;exact av)
 rw[afw]at U;have ax:(E.toList.take (g.2+c)++[K]++E.toList.drop (g.2+c+[K].length)).toArray.size=E.size:=by simp;omega
 have I:∀j,j<H.length->(E.toList.take (g.2+c)++[K]++E.toList.drop (g.2+c+[K].length)).toArray.getD (g.2+j) undef=if j=c then K else E.getD (g.2+j) undef:=by
  intro j R;rw[sH E [K] (g.2+c) (g.2+j) (by simp;omega)]
  by_cases A:j=c
  ·subst A;rw[if_neg (by omega),if_pos (by simp),if_pos rfl];simp
  ·rw[if_neg A]
   by_cases aQ:j<c
   ·rw[if_pos (by omega)]
   ·rw[if_neg (by omega),if_neg (by simp;omega)]
 generalize aR:(E.toList.take (g.2+c)++[K]++E.toList.drop (g.2+c+[K].length)).toArray=arr' at U ax I;obtain⟨J,ay,hheap⟩:=Av (g:=g) (arr':=arr') k1;have hA:=hI.aer hx hm hc Z f i;have hB:=hA.acL (fun k=>∃o,k=NK y o) G (fun k hk=>by
  obtain⟨o,rfl⟩:=hk;exact⟨by have:=hK o;omega,by have:=hK o;omega,hV o⟩) (h':=EH (bY h y (some ⟨r.v,r.ty,[.nr F s G (putCells H c [.und])],false,r.lst,true⟩))) (fun k hk=>by
  obtain⟨o,rfl⟩:=hk;rw[eL (aA _ _ _) rfl rfl f,eL (aA _ _ _) rfl rfl f];cases (putCells H c [D.und])[o]? with
  | none=>rfl
  | some d=>cases d<;>rfl) (fun k hk=>by
  by_cases hky:rt k=y
  ·rcases pF hky with rfl|h
   ·rw[fJ (aA _ _ _) rfl rfl f,fJ (aA _ _ _) rfl rfl f]
   ·exact absurd h hk
  ·exact ec (by rw[aC _ _ hky,aC _ _ hky]))
 generalize az:bY h y (some (⟨r.v,r.ty,[.nr F s G (putCells H c [.und])],false,r.lst,true⟩:Row))=h2 at hB;have ak:h2 y=some ⟨r.v,r.ty,[.nr F s G (putCells H c [.und])],false,r.lst,true⟩:=by rw[<- az,aA]
 have W:∀z,z≠y->h2 z=h z:=fun z Z=>by rw[<- az,aC _ _ Z]
 have ab:EH h2 B=some q:=by
  rw[s9 (by omega),W _ S,aj];simp only[Option.map_some,Dz,aa];rfl
 have X:=(hB.rows B q ab).2;have al:∀b,Own M (forget (EH h2) (some B)) blk b->Own M (EH h2) blk b:=fun b O=>by
  rcases O with O|⟨z,r',g',Z,aJ,aK,aL⟩
  ·exact .inl O
  ·simp only[forget]at Z
   by_cases aB:z=B
   ·subst aB;rw[aA]at Z;cases Z
   ·rw[aC _ _ aB]at Z;exact .inr ⟨z,r',g',Z,aJ,aK,aL⟩
 have hC:=hB.VL (w':=w) (h1:=forget (EH h2) (some B)) (old:=some B) (d:=NK y c) (r0:=⟨G,F,q.cells,false,true,false⟩) (go:=blk B) rfl rfl rfl (aeX _) (fun _ _ _=>rfl) (fun y' C=>by cases C;exact⟨q,ab,au⟩) rfl (by have:=hK c;omega) (by have:=hK c;omega) (hV c)
  (fun y' r' j s' n' C aM Y=>by
   simp only[forget]at C
   by_cases ag:y'=B
   ·subst ag;rw[aA]at C;cases C
   rw[aC _ _ ag]at C;have ah:=(hB.rows y' r' C).2;cases O:blk y' with
   | none =>
    rw[O]at ah;rw[show r'.cells=[] from ah]at Y;cases Y
   | some g' =>
    obtain⟨⟨q1,q2⟩,_⟩:=hB.pha y' r' g' C aM O j _ s' n' Y;rcases q2 with q2|q2
    ·have:=hK c;omega
    ·obtain⟨rfl,rfl⟩:=uc f q1 q2;rw[fJ ak rfl rfl f]at C;simp only[ae5]at C;subst C;simp only[ahu,fG i,Option.map_some,ae5]at Y;cases Y) (by
  cases O:blk B with
  | none=>rw[O]at X;exact X
  | some g' =>
   obtain⟨ai,m1,m2,m3⟩:=hB.Ff ab O aa;refine⟨.inr ⟨B,g',rfl,O,rfl⟩,ai,by rw[<- aI];exact m1,m2,fun j d R=>⟨(m3 j d R).1,(m3 j d R).2.keep fun b q1 q2=>⟨q1,?_,rfl⟩⟩⟩;rintro (hn|rfl)
   ·exact q2 (al b hn)
   ·exact q2 (.inr ⟨B,q,g',ab,au,O,rfl⟩)) rfl
 generalize an:bY (forget (EH h2) (some B)) (NK y c) (some (⟨G,F,q.cells,false,true,false⟩:Row))=aD at hC;have ad:aD y=some ⟨r.v,r.ty,(putCells H c [.und]).mapIdx (rP y s),false,r.lst,true⟩:=by
  rw[<- an,aC _ _ (Ne.symm (hK c).1)];simp only[forget];rw[aC _ _ (Ne.symm S)];exact fJ ak rfl rfl f
 have Q:bY blk (NK y c) (blk B) y=some g:=by rw[aC _ _ (Ne.symm (hK c).1),hg]
 have ao:(putCells H c [D.nx n q.cells]).length=H.length:=ka i;have hD:=hC.kg (r0:=⟨r.v,r.ty,(putCells H c [.nx n q.cells]).mapIdx (rP y s),false,r.lst,true⟩) (w':=w.setRow g.1 arr') ad rfl rfl rfl rfl rfl (by rw[ay];exact aeX _) (fun b _ O=>hheap b (O g Q)) (by
  rw[Q];refine⟨by simp[World.shape?,J,k1,ax],?_⟩;have aq:=hC.rowIs ad Q;unfold dV at aq ⊢;simp only at aq ⊢;rcases aq with⟨ks,vs,m1,_⟩|⟨m1,ai,m2,m3,m4⟩
  ·exfalso;have:=congrArg List.length m1;simp only[aht,ka i,List.length_singleton]at this;have h0:c=0:=by omega
   subst h0;have aE:=congrArg (fun l:List D=>l[0]?) m1;simp only[ahu,fG i,Option.map_some,List.getElem?_cons_zero,ae5]at aE;cases aE
  ·rw[k1]at m2;simp only[ae5,Obj.cells.injEq]at m2;obtain⟨rfl,-⟩:=m2;refine .inr ⟨fun d hd =>?_,arr',J,by simp only[aht,ao];omega,fun j d R =>?_⟩
   ·obtain⟨j,R⟩:=afi hd;simp only[ahu,aeV]at R;obtain⟨d0,m,rfl⟩:=R;exact lP _ _ _ _
   ·simp only[ahu,aeV]at R;obtain⟨d0,m,rfl⟩:=R;have ae:j<H.length:=by
     have:=(afp.1 m).1;omega
    rw[I j ae]
    by_cases A:j=c
    ·subst A;rw[fG i]at m;cases m;trivial
    ·rw[if_neg A];rw[gV i A]at m;have:=m4 j (rP y s j d0) (by rw[ahu,gV i A,m];rfl);exact this.keep fun b q1 q2=>⟨by rw[ay];exact q1,q2,hheap b (fun e=>q2 (.inr ⟨y,_,g,ad,rfl,Q,e.symm⟩))⟩) (fun h=>by cases h) (fun _ g' aF j x' s' n' R=>by
  rw[Q]at aF;cases aF;simp only[ahu,aeV]at R;obtain⟨d0,m,he⟩:=R;have ae:j<H.length:=by
   have:=(afp.1 m).1;omega
  by_cases A:j=c
  ·subst A;rw[fG i]at m;simp only[ae5]at m;subst m;simp only[rP,D.ph.injEq]at he;obtain⟨rfl,rfl,rfl⟩:=he;refine⟨⟨f,.inr rfl⟩,K,by rw[bd J (by omega),I j ae,if_pos rfl],fun r' _ =>?_⟩;rw[aA];exact aw
  ·rw[gV i A]at m;obtain⟨q1,u,q2,q3⟩:=hC.pha y _ g ad rfl Q j x' s' n' (by rw[ahu,gV i A,m,<- he];rfl);refine⟨q1,u,?_,q3⟩;rw[bd k1 (by omega)]at q2;rw[bd J (by omega),I j ae,if_neg A,q2])
 have aG:bY aD y (some (⟨r.v,r.ty,(putCells H c [.nx n q.cells]).mapIdx (rP y s),false,r.lst,true⟩:Row))=EH (aW h [(B,none),(y,some ⟨r.v,r.ty,[.nr F s G (putCells H c [.nx n q.cells])],false,r.lst,true⟩)]):=by
  simp only[aW];funext k
  by_cases hky:rt k=y
  ·rcases pF hky with rfl|⟨o',rfl⟩
   ·rw[aA,fJ (aA _ _ _) rfl rfl f]
   ·rw[aC _ _ (hK o').1,eL (aA _ _ _) rfl rfl f,<- an]
    by_cases hoc:o'=c
    ·subst hoc;rw[aA,fG i];rfl
    ·rw[aC _ _ (fun e=>hoc (uc f f e).2)];simp only[forget];rw[aC _ _ (hK o').2.1,eL ak rfl rfl f,gV i hoc,gV i hoc]
  ·rw[aC _ _ (fun e=>hky (by rw[e,ig (by omega)])),<- an,aC _ _ (fun e=>hky (by rw[e,vf f]))];simp only[forget]
   by_cases hk1:rt k=B
   ·rcases pF hk1 with rfl|⟨o',rfl⟩
    ·rw[aA,s9 (by omega),aC _ _ S,aA];rfl
    ·rw[aC _ _ (by have:=e9 B o';omega),s8 ar,s8 ar,W _ S,aj,aC _ _ S,aA];simp only[Option.bind_some,Option.bind_none,sg,aa];rfl
   ·rw[aC _ _ (fun e=>hk1 (by rw[e,ig (by omega)]))];exact ec (by rw[W _ hky,aC _ _ hky,aC _ _ hk1])
 refine .inr (.inl ⟨w.setRow g.1 arr',?_,bY blk (NK y c) (blk B),?_,trivial⟩)
 ·simp[execOp,ho,Instr.storeAt,Instr.sureAddr,aH,storeVar,run_sizeOf (hT ty τ hτ),c1,hu,U]
 ·show Inv _ _ _ _ _ _ _ (EH (aW h _)) _ _;rw[<- aG];exact hD.weaken fun _ _ h =>.inl h
def Yo (V:Nat->Nat->Prop) (h:Nat->Option Row) (e:Nat):Prop:=∀x r c s b d a,h x=some r->r.mp=true->r.cells=[.nr c s b d]->x<PK->bump b e=some a->∀o,¬V (NK x o) a
def abi {g:Nat->Prop} {d:D} {e:List D} {u:Value} (c:plV d=some e) (r:e.all fD=true) (i:RT w g h blk V d u):u.cells.toList.length=e.length∧∀(j:Nat) x,e[j]? = some x->fD x=true∧RP w g (canon x) (u.cells.toList.getD j undef):=by
 have l:∀x∈e,fD x=true:=ae7.1 r;have one:∀(d0:D),e=[d0]->RP w g d0 u->u.cells.toList.length=e.length∧∀(j:Nat) x,e[j]? = some x->fD x=true∧RP w g (canon x) (u.cells.toList.getD j undef):=by
  intro d0 t m;subst t;have o:=l d0 (by simp);have v:=m.cells (fa o).1;rw[v];refine⟨rfl,fun j x f =>?_⟩;cases j with
  | zero=>simp only[List.getElem?_cons_zero,ae5]at f;subst f;exact⟨o,m.canon⟩
  | succ j=>simp at f
 cases d with
 | agg xs =>
  simp only[plV,ae5]at c;subst c;have p:RP w g (.agg xs) u:=i;cases p with
  | agg xs us h1 h2 h3 =>
   have q:(Value.agg us.toArray).cells.toList=us:=by simp[Value.cells]
   rw[q];exact⟨h1,fun j x f=>⟨l x (afo f),(h2 j x f).canon⟩⟩
 | int k n=>simp only[plV,ae5]at c;exact one _ c.symm i
 | bool b=>simp only[plV,ae5]at c;exact one _ c.symm i
 | str s=>simp only[plV,ae5]at c;exact one _ c.symm i
 | sl a b n xs=>simp only[plV,ae5]at c;exact one _ c.symm i
 | _=>cases c
def Wt (hT:iI P T) (Y:Inv N M L w0 blk V t (EH h) a w) (ai:Yo V h e) {ty:Nat} {p x:Operand} {τ:Ty} {E:cd} (ho:o.op=.store ty p x) (hτ:T ty=some τ) (b:nP τ e h (ev t p) (ev t x)=some E):dZ P o a w (jK N M L w0 V t h a e o.dst E):=by
 have hp:=Y.ev p;have hq:=Y.ev x;generalize ev t p=pd at *;generalize ev t x=d at *;unfold nP at b;split at b<;>try (cases b;done)
 rename_i y v c;split at b<;>try (cases b;done)
 rename_i r I s nv cs hl;obtain⟨Q,hv,hz,R,C,S⟩:=iD hl;have aj:=fJ Q R S C;obtain⟨g,hg,J⟩:=hp.2 _ aj hv;split at b<;>try (cases b;done)
 rename_i f;obtain⟨Z,az⟩:=f;have K:Lj τ y r I s nv cs c (plV d)=some E->dZ P o a w (jK N M L w0 V t h a e o.dst E):=by
  intro b;unfold Lj at b;split at b<;>try (cases b;done)
  rename_i c' ak;split at b<;>try (cases b;done)
  rename_i f;obtain⟨d1,d2⟩:=f;simp only[ae5]at b;subst b;obtain⟨u1,u2⟩:=abi ak d2 hq;have aB:(c'.map canon).length=τ.size:=by rw[afq];exact d1
  have m:c+(c'.map canon).length<=cs.length:=by omega
  refine Em hT Y ho hτ Q R S hz C hg J rfl (u1.trans d1) Z (fun u hu =>?_) (jx m) (fun j U l i =>?_) (fun j i =>?_) (fun j d0 i F =>?_)
  ·obtain⟨j,i⟩:=afi hu;have aC:=(afp.1 i).1;obtain⟨q1,q2⟩:=u2 j _ (ae9 (by omega));have e1:(a.eval x).cells.toList.getD j undef=u:=by simp only[afz,i,Option.getD_some]
   rw[e1]at q2;exact q2.sj (by rw[mT];exact (fa q1).1)
  ·rw[mm m]at i;split at i
   ·exact⟨U,l,l.length,i,by simp⟩
   ·split at i
    ·rw[aeU,aeV]at i;obtain⟨x0,W,h2⟩:=i;have:=(u2 _ x0 W).1;cases x0<;>first|(cases h2;done)|(cases this;done)
    ·exact⟨U,l,l.length,i,by simp⟩
  ·rw[mm m]
   by_cases W:j<c
   ·rw[if_pos W]
   ·rw[if_neg W,if_neg (by omega)]
  ·rw[mm m,if_neg (by omega),if_pos (by omega),agf,aeU,aeV]at F;obtain⟨x0,W,rfl⟩:=F;obtain⟨q1,q2⟩:=u2 j x0 W;refine⟨fun _=>q2,fun U l he =>?_⟩;cases x0<;>first|(cases he;done)|(cases q1;done)
 unfold Hv at b;split at b
 ·rename_i z vz s' oz n;split at b<;>try (cases b;done)
  rename_i f;obtain⟨c1,rfl,rfl⟩:=f;have aa:∀ {k:Nat} {q:Row},EH h z=some q->q.v=vz->HE w blk z s' n (a.eval x):=by
   intro k q al an;rcases hq.2 q al an with⟨g',o',c',N',t',k0,X,k2,k3,k4,k5⟩|⟨k0,X,A,k2⟩
   ·obtain⟨k6,k7⟩:=k2 (.inr rfl);rw[afw]at k6;subst k6;exact .inl ⟨g',c',N',t',k0,X,k7,k3,k4,k5⟩
   ·exact .inr ⟨k0,X,A,k2⟩
  have ab:∀ {B:HE w blk z s' n (a.eval x)},(a.eval x).cells = #[a.eval x]∧(a.eval x).oneCell'=true:=by
   intro B;rcases B with⟨g',c',N',t',k0,X,_⟩|⟨k0,X,A,k2⟩
   ·rw[X];exact⟨rfl,rfl⟩
   ·rw[k2];exact⟨rfl,rfl⟩
  split at b
  ·rename_i ao;subst ao;split at b<;>try (cases b;done)
   rename_i aq;subst aq;rw[ahs]at b;unfold Li at b;split at b<;>try (cases b;done)
   rename_i n0 xs hn;split at b<;>try (cases b;done)
   rename_i aA;simp only[ae5]at b;subst b;have ar:EH h (NK y c)=some ⟨vz,I,xs,r.fz,true,false⟩:=by rw[eL Q R S C,hn];rfl
   have hH:=aa (k:=0) ar rfl;obtain⟨O,G⟩:=ab (B:=hH);have H:=(afp.1 hn).1;refine Em hT Y ho hτ Q R S hz C hg J (us:=[a.eval x]) (by rw[O]) (by simpa using c1.symm) Z (fun u hu=>by simp only[afj]at hu;subst hu;exact G) (ka H) (fun j U l i =>?_) (fun j i=>gV H (by omega)) (fun j d0 i F =>?_)
   ·by_cases ad:j=c
    ·subst ad;rw[fG H]at i;simp only[ae5,D.nx.injEq]at i;obtain⟨rfl,rfl⟩:=i;exact⟨n0,xs,_,hn,rfl⟩
    ·rw[gV H ad]at i;exact⟨U,l,l.length,i,by simp⟩
   ·obtain rfl:j=0:=by omega
    rw[afw,fG H]at F;simp only[ae5]at F;subst F;refine⟨fun hd=>(by cases hd),fun U l he =>?_⟩;simp only[D.nx.injEq]at he;obtain⟨rfl,rfl⟩:=he;exact hH
  ·split at b<;>try (cases b;done)
   rename_i au;split at b<;>try (cases b;done)
   rename_i q ae;split at b<;>try (cases b;done)
   rename_i av;obtain⟨q1,q2,q3,q4⟩:=av;obtain⟨ag,aw⟩:=cw ae;have ah:=ia ae;unfold BN at b;split at b<;>try (cases b;done)
   rename_i ax hb;simp only[ae5]at b;subst b;have ay:EH h z=some q:=by
    rw[s9 (by omega),ag];simp only[Option.map_some,Dz,ah];rfl
   have hH:=aa (k:=0) ay aw;obtain⟨O,G⟩:=ab (B:=hH);exact MS hT Y ho hτ c1 Q R S hz C hg J (by omega) ag au q1 q2 ah q3 O G hH (ai y r I s' nv cs ax Q R S C hb)
 ·exact K b
end
def Xk:Option D->Bool
 | some (.sl true true 0 [])=>true
 | _=>false
def np (φ:Ty) (f:Nat):List D:=putCells ((φ.zero.map oF).map canon) f [.nx 0 []]
def kp (T:Nat->Option Ty) (τ:Ty) (e d a s f:Nat) (l c:D):Option cd :=
 match τ.ds with
 | .slice el =>
  match T el,rp l,rp c with
  | some φ,some l,some c =>
   if l<=c∧c<=maxLen∧c*φ.bytes<=140737488355328∧0<φ.size∧(φ.zero.map oF).all fD=true∧φ.zero.length=φ.size∧d<PK∧Xk ((φ.zero.map oF).drop f).head? = true then
    some ⟨.buf d e φ.size 0 l,[(d,some ⟨e,el,[.nr a s (4*e+2) (n9 l (np φ f))],false,true,true⟩)]⟩
   else none
  | _,_,_=>none
 | _=>none
def YR (τ:Ty) (b e d a s f:Nat):Option cd :=
 if 0<τ.size∧(τ.zero.map oF).all fD=true∧τ.zero.length=τ.size∧d<PK∧Xk ((τ.zero.map oF).drop f).head? = true then
  some ⟨.ptr d e 0,[(d,some ⟨e,b,[.nr a s (4*e+2) (np τ f)],false,false,true⟩)]⟩
 else none
def gS (T:Nat->Option Ty) (Γ:Env) (e:Nat) (o:Oper) (g:Operand->D):Option cd :=
 match o.op with
 | .makeSlice b l c =>
  match o.dst with
  | some d =>
   match Γ.nst d with
   | some (a,s,f)=>match T b with|some τ=>kp T τ e d a s f (g l) (g c)|none=>none
   | none=>none
  | none=>none
 | .alloc b =>
  match o.dst with
  | some d =>
   match Γ.nst d with
   | some (a,s,f)=>match T b with|some τ=>YR τ b e d a s f|none=>none
   | none=>none
  | none=>none
 | _=>none
section
variable {P:Program} {T:Nat->Option Ty} {N:Nat} {M:Nat->Prop} {L:jM} {w0:World} {blk:Nat->Option (Nat×Nat)} {V:Nat->Nat->Prop} {t:Nat->D} {h:Nat->Option Row} {a:Act} {w:World} {e:Nat} {o:Oper} {Γ:Env}
def Inv.addEmpty (m:Inv N M L w0 blk V t h a w) (S:Nat->Prop) (ty T:Nat) (U:∀k,S k->N<=k∧k≠0∧¬V k T∧h k=none) {h':Nat->Option Row} {blk':Nat->Option (Nat×Nat)} (W:∀k,S k->h' k=some ⟨T,ty,[],false,true,false⟩∧blk' k=none) (B:∀k,¬S k->h' k=h k∧blk' k=blk k)
  (X:∀y r g,h y=some r->r.mp=true->blk y=some g->∀j x s n:Nat,r.cells[j]? = some (D.ph x s n)->S x->∃u,w.cell? ⟨g.1,g.2+j,none⟩=some u∧n=0∧∃A,u=.slice A 0 0):Inv N M L w0 blk' V t h' a w:=by
 have C:∀x d,h' x=some d->(S x∧d=⟨T,ty,[],false,true,false⟩∧blk' x=none)∨(¬S x∧h x=some d∧blk' x=blk x):=by
  intro x d z
  by_cases q:S x
  ·rw[(W x q).1]at z;exact .inl ⟨q,by simpa using z.symm,(W x q).2⟩
  ·rw[(B x q).1]at z;exact .inr ⟨q,z,(B x q).2⟩
 have Y:∀b,¬Own M h blk b->¬Own M h' blk' b:=by
  intro b J E;rcases E with E|⟨x,d,g,z,Z,l,e⟩
  ·exact J (.inl E)
  ·rcases C x d z with⟨_,_,f⟩|⟨_,o,f⟩
   ·rw[f]at l;cases l
   ·exact J (.inr ⟨x,d,g,o,Z,f ▸ l,e⟩)
 have K:HD w w (Own M h blk) (Own M h' blk') h h' blk blk' V V:=⟨fun b F p=>⟨F,Y b p,rfl⟩,fun _ _ h=>h,fun x v hv d F p=>by
  rcases C x d F with⟨O,rfl,_⟩|⟨_,o,f⟩
  ·simp only at p;subst p;exact absurd hv (U x O).2.2.1
  ·exact⟨⟨d,o,p⟩,f,fun _ _=>rfl⟩⟩
 exact {
  tab:=m.tab.keep fun b F p=>⟨F,Y b p,rfl⟩
  below:=m.below
  mlt:=m.mlt
  lent:=m.lent
  pin:=fun go l=>⟨(m.pin go l).1,fun d hr hv=>by
   rcases C 0 d hr with⟨O,_⟩|⟨_,o,f⟩
   ·exact absurd rfl (U 0 O).2.1
   ·rw[f];exact (m.pin go l).2 d o hv⟩
  defers:=m.defers
  tsz:=m.tsz
  slots:=fun i=>(m.slots i).mono K
  rows:=fun x d z=>by
   rcases C x d z with⟨O,rfl,f⟩|⟨_,o,f⟩
   ·rw[f];exact⟨fun hn=>by have:=(U x O).1;omega,rfl⟩
   ·obtain⟨F,p⟩:=m.rows x d o;rw[f];refine⟨F,?_⟩;cases J:blk x with
    | none=>rw[J]at p;exact p
    | some g =>
     rw[J]at p;exact⟨p.1,p.2.keep rfl rfl rfl rfl fun b I G=>⟨I,Y b G,rfl⟩⟩
  inj:=fun x y r s g g' z P l H e=>by
   rcases C x r z with⟨_,_,f⟩|⟨_,o,f⟩
   ·rw[f]at l;cases l
   rcases C y s P with⟨_,_,Q⟩|⟨_,G,Q⟩
   ·rw[Q]at H;cases H
   exact m.inj x y r s g g' o G (f ▸ l) (Q ▸ H) e
  big:=m.big
  pha:=fun y d g P hm l j x s n hc=>by
   rcases C y d P with⟨_,rfl,f⟩|⟨_,o,f⟩
   ·rw[f]at l;cases l
   rw[f]at l;obtain⟨h0,u,I,G⟩:=m.pha y d g o hm l j x s n hc;refine⟨h0,u,I,?_⟩
   by_cases q:S x
   ·obtain⟨u',p1,p2,p3⟩:=X y d g o hm l j x s n hc q;rw[I]at p1;cases p1;exact fun R _ =>.inr ⟨(W x q).2,p2,p3⟩
   ·exact fun R Q=>by
     rw[(B x q).2];exact G R ((B x q).1 ▸ Q)
  ali:=fun y d g P Z aa l j c d' hj ab=>by
   rcases C y d P with⟨_,rfl,f⟩|⟨_,o,f⟩
   ·rw[f]at l;cases l
   rw[f]at l;obtain⟨u,I,G⟩:=m.ali y d g o Z aa l j c d' hj ab;exact⟨u,I,G.mono K⟩ }
def zS (d:Nat) (c:d<PK):Dj (EH h) (EH (bY h d none)):=by
 intro k e a
 by_cases b:rt k=d
 ·rcases pF b with rfl|⟨o,rfl⟩
  ·rw[s9 (by have:=cQ;omega),aA]at a;cases a
  ·rw[s8 c,aA]at a;cases a
 ·exact⟨e,by rw[<- a];exact ec (aC _ _ b).symm,.refl _⟩
def Tl {v:Value} (h:oF v=.sl true true 0 []):v=.slice none 0 0:=by
 unfold oF at h;split at h<;>first|rfl|cases h
open Classical in
def Wr (hT:iI P T) (hI:Inv N M L w0 blk V t (EH h) a w) {ty d aa s f:Nat} {l c:Operand} {τ:Ty} {E:cd} (ho:o.op=.makeSlice ty l c) (hd:o.dst=some d) (hV:js N V d e) (ao:∀o,¬V (NK d o) (4*e+2)) (hτ:T ty=some τ)
  (Q:kp T τ e d aa s f (ev t l) (ev t c)=some E):dZ P o a w (jK N M L w0 V t h a e o.dst E):=by
 have aq:=hI.ev l;have ar:=hI.ev c;have aD:=hI.big;have aE:=cQ;obtain⟨dd,G,hc⟩:=under hT hτ;unfold kp at Q;split at Q<;>try (cases Q;done)
 rename_i el au;rw[au]at hc;have:=fS hc;subst this;split at Q<;>try (cases Q;done)
 rename_i φ n k hφ hn J;split at Q<;>try (cases Q;done)
 rename_i ab;obtain⟨c1,c2,c3,c4,c5,c6,A,c8⟩:=ab;simp only[ae5]at Q;subst Q;obtain⟨q1,hl⟩:=xD hn aq;obtain⟨q2,av⟩:=xD J ar;obtain⟨d',i,z,g1,g2,g3,g4,g5,g6,g7⟩:=(hT el φ hφ).get;have hb:(i.bytes:Int)*(k:Int)<=281474976710656:=by
  have:((i.bytes*k:Nat):Int)<=281474976710656:=by
   rw[g5,afU];omega
  rwa [afV]at this
 have ai:(k:Int)<=9223372036854775807:=by
  simp only[maxLen]at c2;omega
 have K:=run_make (P:=P) w ty el i z G g3 g6 q1 q2 n k (by omega) (by omega) hb ai;simp only[Int.toNat_natCast]at K;have aF:(φ.zero.map oF).length=φ.size:=by rw[afq,c6]
 have hf:f<φ.size:=by
  rw[ahs]at c8;rcases afE f φ.size with ad|aG
  ·exact ad
  ·rw[agx (by omega)]at c8;cases c8
 have aj:(φ.zero.map oF)[f]? = some (.sl true true 0 []):=by
  rw[ahs]at c8;unfold Xk at c8;split at c8
  ·assumption
  ·cases c8
 have ak:(np φ f).length=φ.size:=by
  unfold np;rw[ka (by simp;omega)];simp[c6]
 have X:∀(m:Nat) (x:D),(np φ f)[m]? = some x->(m=f∧x=.nx 0 [])∨(m≠f∧∃y,(φ.zero.map oF)[m]? = some y∧x=canon y):=by
  intro m x R;unfold np at R
  by_cases ae:m=f
  ·subst ae;rw[fG (by simp;omega)]at R;exact .inl ⟨rfl,by simpa using R.symm⟩
  ·rw[gV (by simp;omega) ae,aeU,aeV]at R;obtain⟨y,h1,h2⟩:=R;exact .inr ⟨ae,y,h1,h2.symm⟩
 generalize al:madeCells z.cells (k*i.size)=vs at K;have aw:vs.size=k*φ.size:=by rw[<- al];simp[madeCells,g4]
 have Y:∀j,j<k*φ.size->vs.getD j undef=φ.zero.toArray.getD (j % φ.size) undef:=by
  intro j p;rw[<- al,g7,g4,<- c6];have:=w9 φ.zero k j (by rw[c6];exact p);simpa [madeCells,List.getD] using this
 have ag:∀(j:Nat) (x:D),(n9 n (np φ f))[j]? = some x->j<n*φ.size∧(np φ f)[j % φ.size]? = some x:=by
  intro j x p;have:=Dw _ _ _ _ p
  rwa [ak]at this
 have aH:n*φ.size<=k*φ.size:=afF _ c1;have Z:∀(M':Nat->Prop) (w':World) (j:Nat) (x:D),(n9 n (np φ f))[j]? = some x->fD x=true->RP w' M' x (vs.getD j undef):=by
  intro M' w' j x p ax;obtain⟨r1,r2⟩:=ag j x p;rw[Y j (by omega)];rcases X _ x r2 with⟨_,rfl⟩|⟨_,y,h1,rfl⟩
  ·cases ax
  ·exact (rK (w:=w') (M:=M') φ.zero (ae7.2 fun y hy=>(fa (ae7.1 c5 y hy)).1) _ y h1).2.canon
 have C:∀(j:Nat) (n':Nat) (H:List D),(n9 n (np φ f))[j]? = some (.nx n' H)->n'=0∧H=[]∧vs.getD j undef=.slice none 0 0:=by
  intro j n' H p;obtain⟨r1,r2⟩:=ag j _ p;rcases X _ _ r2 with⟨R,I⟩|⟨_,y,h1,I⟩
  ·simp only[D.nx.injEq]at I;refine⟨I.1,I.2,?_⟩;rw[Y j (by omega),R];rw[aeU,aeV]at aj;obtain⟨v,v1,v2⟩:=aj;simp only[ae1,List.getElem?_toArray,v1,Option.getD_some];exact Tl v2
  ·have:=ae7.1 c5 y (afo h1);cases y<;>first|(cases I;done)|(cases this;done)
 generalize ay:n9 n (np φ f)=cs at ag Z C;have aI:cs.length=n*φ.size:=by rw[<- ay,sd,ak]
 have hA:=hI.le (zS (h:=h) d A);have hold:∀b,b<w.heap.size->(w.alloc (.cells vs el)).heap[b]? = w.heap[b]?:=fun b hb=>Below.heap_alloc w _ b hb;have U:=(Below.refl w.heap.size w).alloc (aeX _) (.cells vs el);have F:=heap_alloc_new w (.cells vs el);have ah:∀o,EH (bY h d none) (NK d o)=none:=fun o=>by rw[s8 A,aA];rfl
 have O:∀o,NK d o≠d:=fun o=>by have:=e9 d o;omega
 have hB:=hA.DU (w':=w.alloc (.cells vs el)) (h1:=EH (bY h d none)) (old:=none) (d:=d) (e:=e) (r0:=⟨e,el,cs.mapIdx (rP d s),false,true,true⟩) (go:=some (w.heap.size,0)) U.os U.tape U.output U.size (fun k J _=>hold k J) (fun y hy=>by cases hy) rfl hV
  ⟨.inl (aeX _),.inr ⟨fun x hx=>by
   obtain⟨j,p⟩:=afi hx;simp only[ahu,aeV]at p;obtain⟨d0,B,rfl⟩:=p;exact lP _ _ _ _,vs,F,by simp only[aht];omega,fun j x p=>by
   simp only[ahu,aeV]at p;obtain⟨d0,B,rfl⟩:=p;rw[afH]
   by_cases G:fD d0=true
   ·rw[kh G];exact (fa G).2.2.2 (Z _ _ j d0 B G)
   ·cases d0<;>first|trivial|exact absurd rfl G⟩⟩ rfl rfl (fun _ g hg j x s' n' p=>by
   cases hg;simp only[ahu,aeV]at p;obtain⟨d0,B,I⟩:=p;obtain⟨H,rfl,rfl,rfl⟩:=rG I;have ad:=(afp.1 B).1;refine⟨⟨A,.inr rfl⟩,_,bd F (by omega),fun r hr =>?_⟩;rw[aC _ _ (O j),ah]at hr;cases hr)
 obtain⟨S,hS⟩:∃S:Nat->Prop,∀k,S k↔∃o H,k=NK d o∧cs[o]? = some (.nx 0 H):=⟨_,fun _=>Iff.rfl⟩;have hC:=hB.addEmpty S aa (4*e+2) (h':=EH (bY h d (some ⟨e,el,[.nr aa s (4*e+2) cs],false,true,true⟩))) (blk':=fun k=>if S k then none else bY blk d (some (w.heap.size,0)) k) (fun k J=>by
   obtain⟨q,H,rfl,W⟩:=(hS k).1 J;have:=e9 d q;refine⟨by omega,by omega,?_,by rw[aC _ _ (O q),ah]⟩;rintro (hv|⟨I,_⟩)
   ·exact ao q hv
   ·exact O q I) (fun k J=>by
   refine⟨?_,by rw[if_pos J]⟩;obtain⟨q,H,rfl,W⟩:=(hS k).1 J;rw[eL (aA _ _ _) rfl rfl A,W];obtain⟨_,rfl,_⟩:=C q 0 H W;rfl) (fun k J=>by
   refine⟨?_,by rw[if_neg J]⟩
   by_cases hkd:rt k=d
   ·rcases pF hkd with rfl|⟨q,rfl⟩
    ·rw[aA,fJ (aA _ _ _) rfl rfl A]
    ·rw[aC _ _ (O q),ah,eL (aA _ _ _) rfl rfl A];cases an:cs[q]? with
     | none=>rfl
     | some d0 =>
      cases d0 with
      | nx n' H =>
       obtain⟨rfl,_,_⟩:=C q n' H an;exact absurd ((hS _).2 ⟨q,H,rfl,an⟩) J
      | _=>rfl
   ·rw[aC _ _ (fun e=>hkd (by rw[e,ig (by omega)]))];exact ec (by rw[aC _ _ hkd,aC _ _ hkd])) (fun y r g hy R hg j x s' n' p hs=>by
   obtain⟨q,H,rfl,W⟩:=(hS _).1 hs;obtain⟨⟨p1,p2⟩,u,p3,_⟩:=hB.pha y r g hy R hg j _ s' n' p;rcases p2 with p2|p2
   ·have:=e9 d q;omega
   obtain⟨rfl,rfl⟩:=uc A p1 p2;rw[aA]at hy hg;cases hy;cases hg;simp only[ahu,aeV]at p;obtain⟨d0,B,I⟩:=p;obtain⟨az,rfl,_,rfl⟩:=rG I;obtain⟨k1,_,k3⟩:=C q n' az B;have ad:=(afp.1 B).1;refine⟨_,bd F (by omega),k1,none,?_⟩;rw[afH];exact k3)
 have aB:¬S d:=fun hs=>by
  obtain⟨q,_,I,_⟩:=(hS d).1 hs;exact O q I.symm
 refine aN (v := .slice (some ⟨w.heap.size,0,none⟩) n k) (w':=w.alloc (.cells vs el)) ?_ ⟨fun k=>if S k then none else bY blk d (some (w.heap.size,0)) k,?_,?_⟩
 ·simp[execOp,ho,hl,av,K]
 ·refine hC.weaken fun x v hx =>?_;rcases hx with hx|⟨rfl,rfl⟩
  ·exact .inl hx
  ·exact .inr ⟨hd,rfl⟩
 ·exact ue (g:=(w.heap.size,0)) (.inr ⟨hd,rfl⟩) (by rw[if_neg aB,aA]) F c1 c2 (by rw[aw];simp)
end
section
variable {P:Program} {T:Nat->Option Ty} {N:Nat} {M:Nat->Prop} {L:jM} {w0:World} {blk:Nat->Option (Nat×Nat)} {V:Nat->Nat->Prop} {t:Nat->D} {h:Nat->Option Row} {a:Act} {w:World} {e:Nat} {o:Oper} {Γ:Env}
def Inv.aau (l:Inv N M L w0 blk V t h a w) (S:Nat->Prop) {w':World} {h':Nat->Option Row} {blk':Nat->Option (Nat×Nat)} {V':Nat->Nat->Prop} (hVV:∀x v,V x v->V' x v)
  (ah:w'.os=w.os) (Q:w'.tape=w.tape) (Y:w'.output=w.output) (R:w.heap.size<=w'.heap.size)
  (hblock:∀k,k<w.heap.size->(∀x r g,S x->h x=some r->blk x=some g->k≠g.1)->w'.heap[k]? = w.heap[k]?)
  (Z:∀x r,S x->h x=some r->r.fz=false)
  (B:∀x,¬S x->h' x=h x∧blk' x=blk x)
  (T:∀x r,S x->h' x=some r->r.fz=false∧(x<N->V' x r.v)∧(match blk' x with
   | some g=>(w.heap.size<=g.1∨∃y s F,S y∧h y=some s∧blk y=some F∧g.1=F.1)∧dV w' (Own M h' blk') g r
   | none=>r.cells=[]))
  (aa:∀x y r s g I,S x->S y->h' x=some r->h' y=some s->blk' x=some g->blk' y=some I->g.1=I.1->x=y)
  (U:∀x r,S x->V x r.v->h' x=some r->(∃r0,h x=some r0∧r0.v=r.v)∧blk' x=blk x∧∀g,blk x=some g->w'.shape? g.1=w.shape? g.1)
  (ab:∀y r g,S y->h' y=some r->r.mp=true->blk' y=some g->∀j x s n:Nat,r.cells[j]? = some (D.ph x s n)->P4 y j x∧∃u,w'.cell? ⟨g.1,g.2+j,none⟩=some u∧ZL w' h' blk' x s n u)
  (ai:∀y r (j x s n:Nat),¬S y->h y=some r->r.mp=true->r.cells[j]? = some (D.ph x s n)->¬S x) :
  Inv N M L w0 blk' V' t h' a w':=by
 have hother:∀x r g,¬S x->h x=some r->blk x=some g->w'.heap[g.1]? = w.heap[g.1]?:=fun x r g hs f d=>hblock _ (l.lt f d) (fun y r' I A aj m e=>hs (by rw[l.inj x y r r' g I f aj d m e];exact A));have W:∀b,b<w.heap.size->¬Own M h blk b->w'.heap[b]? = w.heap[b]?:=fun b hb hn=>hblock b hb fun x r g hs f d H=>hn (.inr ⟨x,r,g,f,Z x r hs f,d,H.symm⟩);have J:∀x r g,h' x=some r->blk' x=some g->w.heap.size<=g.1∨∃y s F,h y=some s∧blk y=some F∧g.1=F.1∧(S y↔S x)∧(s.fz=false∨s=r)∧(S x∨y=x):=by
  intro x r g f d
  by_cases hs:S x
  ·have:=(T x r hs f).2.2;rw[d]at this;rcases this.1 with k|⟨y,s,F,k1,o,C,P⟩
   ·exact .inl k
   ·exact .inr ⟨y,s,F,o,C,P,⟨fun _=>hs,fun _=>k1⟩,.inl (Z y s k1 o),.inl hs⟩
  ·obtain⟨k1,o⟩:=B x hs;exact .inr ⟨x,r,g,by rw[<- k1];exact f,by rw[<- o];exact d,rfl,Iff.rfl,.inr rfl,.inr rfl⟩
 have ad:∀b,b<w.heap.size->¬Own M h blk b->¬Own M h' blk' b:=by
  intro b hb hn X;rcases X with X|⟨x,r,g,f,hz,d,H⟩
  ·exact hn (.inl X)
  ·rcases J x r g f d with k|⟨y,s,F,k1,o,C,_,P,_⟩
   ·omega
   ·exact hn (.inr ⟨y,s,F,k1,P.elim id (fun e=>by rw[e];exact hz),o,by rw[<- C,H]⟩)
 have hk:∀b,b<w.heap.size->¬Own M h blk b->b<w'.heap.size∧¬Own M h' blk' b∧w'.heap[b]? = w.heap[b]?:=fun b h1 h2=>⟨by omega,ad b h1 h2,W b h1 h2⟩;have ae:∀x v,V x v->∀r',h' x=some r'->r'.v=v->(∃r,h x=some r∧r.v=v)∧blk' x=blk x∧∀g,blk x=some g->w'.shape? g.1=w.shape? g.1:=by
  intro x v hv r' f hr
  by_cases hs:S x
  ·subst hr;exact U x r' hs hv f
  ·obtain⟨k1,o⟩:=B x hs;rw[k1]at f;exact⟨⟨r',f,hr⟩,o,fun g d=>cK (hother x r' g hs f d)⟩
 have ag:HD w w' (Own M h blk) (Own M h' blk') h h' blk blk' V V':=⟨hk,hVV,ae⟩;exact {
  tab:=l.tab.keep hk
  below:=l.below.trans (L':=fun k=>∃x r g,S x∧h x=some r∧blk x=some g∧k=g.1) ⟨ah,Q,Y,R,fun k ak hn=>hblock k ak (fun x r g hs f d H=>hn ⟨x,r,g,hs,f,d,H⟩)⟩ (fun k ⟨x,r,g,hs,f,d,H⟩ an=>by
   rcases l.base f d with hb|hb
   ·omega
   ·rw[H];exact hb)
  mlt:=l.mlt
  lent:=l.lent
  pin:=fun p hp=>⟨hVV _ _ (l.pin p hp).1,fun r hr hv=>by
   obtain⟨⟨r0,k1,o⟩,C,P⟩:=ae 0 0 (l.pin p hp).1 r hr hv;obtain⟨O,K⟩:=(l.pin p hp).2 r0 k1 o;exact⟨C.trans O,fun g d=>(P g (O.trans d)).trans (K g d)⟩⟩
  defers:=l.defers
  tsz:=l.tsz
  slots:=fun i=>(l.slots i).mono ag
  rows:=fun x r f=>by
   by_cases hs:S x
   ·obtain⟨k1,o,C⟩:=T x r hs f;refine⟨o,?_⟩;cases d:blk' x with
    | none=>rw[d]at C;exact C
    | some g =>
     rw[d]at C;refine⟨?_,C.2⟩;rcases C.1 with q|⟨y,s,F,_,K,q3,q4⟩
     ·exact .inl (aeZ l.below.size q)
     ·rw[q4];exact l.base K q3
   ·obtain⟨k1,o⟩:=B x hs;rw[k1]at f;rw[o];exact⟨fun hn=>hVV _ _ ((l.rows x r f).1 hn),(l.rows x r f).2.keep (fun g d=>hother x r g hs f d) hk⟩
  inj:=fun x y r s g I f A d m H=>by
   by_cases E:S x
   ·by_cases G:S y
    ·exact aa x y r s g I E G f A d m H
    ·exfalso;obtain⟨k1,o⟩:=B y G;rw[k1]at A;rw[o]at m;rcases J x r g f d with k|⟨z,s0,F,O,K,q3,q4,_⟩
     ·have:=l.lt A m;omega
     ·have:=l.inj z y s0 s F I O A K m (q3.symm.trans H);subst this;exact G (q4.2 E)
   ·obtain⟨k1,o⟩:=B x E;rw[k1]at f;rw[o]at d
    by_cases G:S y
    ·exfalso;rcases J y s I A m with k|⟨z,s0,F,O,K,q3,q4,_⟩
     ·have:=l.lt f d;omega
     ·have:=l.inj z x s0 r F g O f K d (q3.symm.trans H.symm);subst this;exact E (q4.2 G)
    ·obtain⟨C,P⟩:=B y G;rw[C]at A;rw[P]at m;exact l.inj x y r s g I f A d m H
  big:=l.big
  pha:=fun y r g A hm d j x s n hc=>by
   by_cases hs:S y
   ·exact ab y r g hs A hm d j x s n hc
   ·obtain⟨k1,o⟩:=B y hs;rw[k1]at A;rw[o]at d;obtain⟨h0,u,O,K⟩:=l.pha y r g A hm d j x s n hc;have E:=ai y r j x s n hs A hm hc;obtain⟨C,P⟩:=B x E;exact⟨h0,u,(aeT (a:=⟨g.1,g.2+j,none⟩) (hother y r g hs A d)).trans O,K.mono fun r' g1=>by
     rw[C]at g1;exact⟨⟨r',g1⟩,P,fun I m=>cK (hother x r' I E g1 m)⟩⟩
  ali:=fun y r g A hz hl d j c d' hj al=>by
   by_cases hs:S y
   ·rw[(T y r hs A).1]at hz;cases hz
   ·obtain⟨k1,o⟩:=B y hs;rw[k1]at A;rw[o]at d;obtain⟨u,O,K⟩:=l.ali y r g A hz hl d j c d' hj al;exact⟨u,(aeT (a:=⟨g.1,g.2+j,none⟩) (hother y r g hs A d)).trans O,K.mono ag⟩ }
def R5 {h:Nat->Option Row} {k:Nat} (a:h (rt k)=none):EH h k=none:=by
 have:=ec (h:=h) (h':=fun _=>none) (k:=k) a;rw[this];unfold EH;split<;>rfl
def eD {h:Nat->Option Row} {x k:Nat} {r c:Row} {e s f:Nat} {d:List D} (g:h x=some r) (i:r.mp=true) (j:r.cells=[.nr e s f d]) (l:x<PK) (m:rt k=x) (a:EH h k=some c) :
  (k=x∧c=⟨r.v,r.ty,d.mapIdx (rP x s),r.fz,r.lst,true⟩)∨∃o n b,k=NK x o∧d[o]? = some (.nx n b)∧c=⟨f,e,b,r.fz,true,false⟩:=by
 rcases pF m with rfl|⟨o,rfl⟩
 ·rw[fJ g i j l]at a;exact .inl ⟨rfl,by simpa using a.symm⟩
 ·rw[eL g i j l]at a;unfold Fw at a;split at a
  ·rename_i n b p;exact .inr ⟨o,n,b,rfl,p,by simpa using a.symm⟩
  ·cases a
def Aq {x:Nat} (a:x<PK):rt x=x:=ig (by have:=cQ;omega)
def Y8 {r c:Row} {k:Nat} (a:EH (oa r) k=some c):rt k=0:=by
 by_cases b:rt k=0
 ·exact b
 ·rw[R5 (by unfold oa;rw[if_neg b])]at a;cases a
def nL:0<PK:=by rw[cQ];decide
def jq {k b t s c:Nat} {a:List D} {d:Row} (e:EH (oa (jy b t s c a)) k=some d) :
  (k=0∧d=⟨0,b,a.mapIdx (rP 0 s),false,true,true⟩)∨∃o n f,k=NK 0 o∧a[o]? = some (.nx n f)∧d=⟨c,t,f,false,true,false⟩ :=
 eD (r:=jy b t s c a) rfl rfl rfl nL (Y8 e) e
def wU {a t s c:Nat} {b:List D} : EH (oa (jy a t s c b)) 0=some ⟨0,a,b.mapIdx (rP 0 s),false,true,true⟩ :=
 fJ (r:=jy a t s c b) rfl rfl rfl nL
def uY {c t s a o n:Nat} {b d:List D} (e:b[o]? = some (.nx n d)):EH (oa (jy c t s a b)) (NK 0 o)=some ⟨a,t,d,false,true,false⟩:=by
 rw[eL (r:=jy c t s a b) rfl rfl rfl nL,e];rfl
def UC (x k:Nat):Nat:=@ite _ (k<2*PK) (ltB k (2*PK)) x (NK x (k / PK-2))
def sZ (x:Nat):UC x 0=x:=if_pos (by have:=cQ;omega)
def p7 (x o:Nat):UC x (NK 0 o)=NK x o:=by
 unfold UC;rw[if_neg (by have:=e9 0 o;omega),DM o nL]
def rO (blk:Nat->Option (Nat×Nat)) (x k:Nat):Option (Nat×Nat):=blk (UC x k)
def InX (blk:Nat->Option (Nat×Nat)) (h:Nat->Option Row) (x b:Nat):Prop:=∃k r g,rt k=x∧EH h k=some r∧blk k=some g∧g.1=b
def J0 {h:Nat->Option Row} {x:Nat} {r:Row} {m s q:Nat} {p:List D} (e:h x=some r) (f:r.mp=true) (i:r.cells=[.nr m s q p]) (c:x<PK) (b:Nat):xl (rO blk x) (EH (oa (jy r.ty m s 0 p))) b↔InX blk h x b:=by
 constructor
 ·rintro⟨k,t,g,j,a,d⟩;rcases jq j with⟨rfl,_⟩|⟨o,n,u,rfl,l,_⟩
  ·rw[rO,sZ]at a;exact⟨x,_,g,Aq c,fJ e f i c,a,d⟩
  ·rw[rO,p7]at a;exact⟨NK x o,_,g,vf c,by rw[eL e f i c,l];rfl,a,d⟩
 ·rintro⟨k,t,g,v,j,a,d⟩;rcases eD e f i c v j with⟨rfl,_⟩|⟨o,n,u,rfl,l,_⟩
  ·exact⟨0,_,g,wU,by rw[rO,sZ];exact a,d⟩
  ·exact⟨NK 0 o,_,g,uY l,by rw[rO,p7];exact a,d⟩
def Inv.aa5 (F:Inv N M L w0 blk V t (EH h) a w) {x:Nat} {r:Row} {H s W:Nat} {z:List D} (A:h x=some r) (B:r.mp=true) (C:r.cells=[.nr H s W z]) (hz:r.fz=false) (m:x<PK) {Q:Nat->Prop} (X:∀b,Q b->Own M (EH h) blk b) :
  HF w Q (rO blk x) (EH (oa (jy r.ty H s 0 z))) where
 rows k r' p:=by
  rcases jq p with⟨rfl,rfl⟩|⟨o,n,I,rfl,G,rfl⟩
  ·rw[rO,sZ];cases c:blk x with
   | none =>
    have:=(F.rows x _ (fJ A B C m)).2;rw[c]at this;have h1:z.mapIdx (rP x s)=[]:=this;have h2:z.length=0:=by
     have:=congrArg List.length h1;simpa using this
    show z.mapIdx (rP 0 s)=[];rw[aga h2];rfl
   | some g =>
    obtain⟨q,v,y,E⟩:=F.Cx A B C m c;refine .inr ⟨fun d hd =>?_,q,v,by simpa using y,fun j d e =>?_⟩
    ·obtain⟨j,e⟩:=afi hd;simp only[ahu,aeV]at e;obtain⟨d0,f,rfl⟩:=e;exact lP _ _ _ _
    ·simp only[ahu,aeV]at e;obtain⟨d0,f,rfl⟩:=e
     by_cases i:fD d0=true
     ·rw[kh i];exact (fa i).2.2.2 ((E j d0 f i).less X)
     ·cases d0<;>first|trivial|exact absurd rfl i
  ·rw[rO,p7];have hq:EH h (NK x o)=some ⟨W,H,I,r.fz,true,false⟩:=by rw[eL A B C m,G];rfl
   have:=(F.rows _ _ hq).2;cases c:blk (NK x o) with
   | none=>rw[c]at this;exact this
   | some g =>
    rw[c]at this;obtain⟨q,v,y,E⟩:=this.2;exact⟨q,v,y,fun j d e=>⟨(E j d e).1,(E j d e).2.less X⟩⟩
 inj k l K Y g g' p O c P R:=by
  have key:∀ {k:Nat} {K:Row} {g:Nat×Nat},EH (oa (jy r.ty H s 0 z)) k=some K->rO blk x k=some g->∃Y,EH h (UC x k)=some Y∧blk (UC x k)=some g:=by
   intro k K g p c;rcases jq p with⟨rfl,_⟩|⟨o,n,I,rfl,G,_⟩
   ·exact⟨_,by rw[sZ];exact fJ A B C m,c⟩
   ·exact⟨_,by rw[p7,eL A B C m,G];rfl,c⟩
  obtain⟨q1,v,y⟩:=key p c;obtain⟨q2,E,k4⟩:=key O P;have J:=F.inj _ _ _ _ _ _ v E y k4 R;rcases jq p with⟨rfl,_⟩|⟨o,n,I,rfl,G,_⟩
  ·rcases jq O with⟨rfl,_⟩|⟨Z,n',S,rfl,T,_⟩
   ·rfl
   ·rw[sZ,p7]at J;have:=e9 x Z;have:=cQ;omega
  ·rcases jq O with⟨rfl,_⟩|⟨Z,n',S,rfl,T,_⟩
   ·rw[sZ,p7]at J;have:=e9 x o;have:=cQ;omega
   ·rw[p7,p7]at J;rw[(uc m m J).2]
 pha k r' g p U c j x' s' n e:=by
  rcases jq p with⟨rfl,rfl⟩|⟨o,n,I,rfl,G,rfl⟩;rotate_left
  ·cases U
  rw[rO,sZ]at c;simp only[ahu,aeV]at e;obtain⟨d0,f,R⟩:=e;obtain⟨aa,rfl,rfl,rfl⟩:=rG R;obtain⟨u,v,y⟩:=F.Fz A B C m c f;refine⟨⟨nL,.inr rfl⟩,u,v,fun _ _ =>?_⟩;unfold rO;rw[p7];exact y
def G3 (x k:Nat):Nat:=if k=x then 0 else NK 0 (k / PK-2)
def vG (x:Nat):G3 x x=0:=if_pos rfl
def lH {x:Nat} (a:x<PK) (o:Nat):G3 x (NK x o)=NK 0 o:=by
 unfold G3;rw[if_neg (by have:=e9 x o;have:=cQ;omega),DM o a]
def pC (blk a:Nat->Option (Nat×Nat)) (x k:Nat):Option (Nat×Nat):=if rt k=x then a (G3 x k) else blk k
def Inv.back (Z:Inv N M L w0 blk V t (EH h) a w) {x:Nat} {r:Row} {Q s nv I:Nat} {cs f:List D} {S:Nat×Nat} (hx:h x=some r) (hm:r.mp=true) (hc:r.cells=[.nr Q s nv cs]) (hz:r.fz=false) (v:x<PK)
  (hV:∀o,¬V (NK x o) I) (ag:blk x=some S) {w':World} {c:Nat->Option (Nat×Nat)} {M':Nat->Prop} {h1:Nat->Option Row} (an:h1=EH (oa (jy r.ty Q s 0 f))) (ah:∀b,M' b↔Own M (EH h) blk b∧¬InX blk h x b)
  (hb:ez (InX blk h x) w w') (h0:c 0=some S) (ao:w'.shape? S.1=w.shape? S.1) (ai:∀b,xl c h1 b->w.heap.size<=b∨InX blk h x b) (hR:HF w' (fun b=>M' b∨xl c h1 b) c h1) :
  Inv N M L w0 (pC blk c x) V t (EH (bY h x (some ⟨r.v,r.ty,[.nr Q s I f],false,r.lst,true⟩))) a w'∧∀b,Own M (EH (bY h x (some ⟨r.v,r.ty,[.nr Q s I f],false,r.lst,true⟩))) (pC blk c x) b->M' b∨xl c h1 b:=by
 generalize aj:bY h x (some (⟨r.v,r.ty,[.nr Q s I f],false,r.lst,true⟩:Row))=h2;have z:h2 x=some ⟨r.v,r.ty,[.nr Q s I f],false,r.lst,true⟩:=by rw[<- aj,aA]
 have X:∀k,rt k≠x->EH h2 k=EH h k:=fun k e=>ec (by rw[<- aj,aC _ _ e]);have Y:∀k,rt k≠x->pC blk c x k=blk k:=fun k e=>if_neg e;have T:pC blk c x x=c 0:=by unfold pC;rw[if_pos (Aq v),vG]
 have aa:∀o,pC blk c x (NK x o)=c (NK 0 o):=fun o=>by unfold pC;rw[if_pos (vf v),lH v]
 subst an;have B:∀k r',rt k=x->EH h2 k=some r'->∃G,EH (oa (jy r.ty Q s 0 f)) (G3 x k)=some G∧pC blk c x k=c (G3 x k):=by
  intro k r' e p;have hq:pC blk c x k=c (G3 x k):=if_pos e;rcases eD z rfl rfl v e p with⟨rfl,_⟩|⟨o,n,xs,rfl,ho,_⟩
  ·rw[vG]at hq ⊢;exact⟨_,wU,hq⟩
  ·rw[lH v]at hq ⊢;exact⟨_,uY ho,hq⟩
 have J:∀b,Own M (EH h2) (pC blk c x) b->M' b∨xl c (EH (oa (jy r.ty Q s 0 f))) b:=by
  intro b U;rcases U with U|⟨k,r',g,e,aq,m,p⟩
  ·refine .inl ((ah b).2 ⟨.inl U,?_⟩);rintro⟨k,r',g,_,F,H,q3⟩;exact Z.notM F H (by rw[q3];exact U)
  ·by_cases W:rt k=x
   ·obtain⟨G,F,H⟩:=B k r' W e;exact .inr ⟨_,G,g,F,by rw[<- H];exact m,p⟩
   ·rw[X k W]at e;rw[Y k W]at m;refine .inl ((ah b).2 ⟨.inr ⟨k,r',g,e,aq,m,p⟩,?_⟩);rintro⟨l,s',g',q0,F,H,q3⟩;have:=Z.inj k l r' s' g g' e F m H (p.trans q3.symm);subst this;exact W q0
 refine⟨?_,J⟩;have ak:∀k r',rt k=x->EH h k=some r'->r'.fz=false:=by
  intro k r' e p;rcases eD hx hm hc v e p with⟨_,rfl⟩|⟨o,n,xs,_,_,rfl⟩<;>exact hz
 refine Z.aau (fun k=>rt k=x) (fun _ _ h=>h) hb.os hb.tape hb.output hb.size (fun k e hn=>hb.block k e ?_) ak (fun k e=>⟨X k e,Y k e⟩) ?_ ?_ ?_ ?_ ?_
 ·rintro⟨l,r',g,q0,F,H,q3⟩;exact hn l r' g q0 F H q3.symm
 ·intro k r' e p;have C:∀g,pC blk c x k=some g->w.heap.size<=g.1∨∃y s S,rt y=x∧EH h y=some s∧blk y=some S∧g.1=S.1:=by
   intro g m;obtain⟨G,F,H⟩:=B k r' e p;rcases ai g.1 ⟨_,G,g,F,by rw[<- H];exact m,rfl⟩ with q|⟨y,s',g',p0,p1,p2,p3⟩
   ·exact .inl q
   ·exact .inr ⟨y,s',g',p0,p1,p2,p3.symm⟩
  have al:∀ {g:Nat×Nat} {G:Row},G.mp=false->dV w' (fun b=>M' b∨xl c (EH (oa (jy r.ty Q s 0 f))) b) g G->dV w' (Own M (EH h2) (pC blk c x)) g G:=by
   intro g G ar hr;unfold dV at hr ⊢;rw[ar]at hr ⊢;obtain⟨K,R,k2,k3⟩:=hr;exact⟨K,R,k2,fun j d A=>⟨(k3 j d A).1,(k3 j d A).2.less J⟩⟩
  rcases eD z rfl rfl v e p with⟨rfl,rfl⟩|⟨o,n,xs,rfl,ho,rfl⟩
  ·refine⟨rfl,fun hn=>by have:=(Z.rows k _ (fJ hx hm hc v)).1 hn;exact this,?_⟩;rw[T,h0];refine⟨C S (T.trans h0),?_⟩;have i:=hR.rows 0 _ wU;rw[h0]at i;have i:dV w' (fun b=>M' b∨xl c (EH (oa (jy r.ty Q s 0 f))) b) S ⟨0,r.ty,f.mapIdx (rP 0 s),false,true,true⟩:=i;unfold dV at i ⊢;simp only at i ⊢;rcases i with⟨ks,vs,R,_⟩|⟨_,K,k2,k3,k4⟩
   ·exfalso;simp only at R;have hl:f.length=1:=by
     have:=congrArg List.length R;simpa using this
    match f,hl with
    | [d],_ =>
     simp only[List.mapIdx_cons,List.mapIdx_nil,afk,and_true]at R;have:=lP 0 s 0 d;rw[R]at this;cases this
   ·refine .inr ⟨fun d hd =>?_,K,k2,by simpa using k3,fun j d A =>?_⟩
    ·obtain⟨j,A⟩:=afi hd;simp only[ahu,aeV]at A;obtain⟨d0,O,rfl⟩:=A;exact lP _ _ _ _
    ·simp only[ahu,aeV]at A;obtain⟨d0,O,rfl⟩:=A
     by_cases P:fD d0=true
     ·rw[kh P];have au:(f.mapIdx (rP 0 s))[j]? = some d0:=by rw[ahu,O];exact congrArg some (kh P)
      exact (fa P).2.2.2 (((fa P).2.2.1 (k4 j _ au)).less J)
     ·cases d0<;>first|trivial|exact absurd rfl P
  ·refine⟨rfl,fun hn=>by have:=e9 x o;have:=Z.big;have:=cQ;omega,?_⟩;have i:=hR.rows _ _ (uY ho);rw[aa];cases m:c (NK 0 o) with
   | none=>rw[m]at i;exact i
   | some g =>
    rw[m]at i;refine⟨C g ((aa o).trans m),al rfl ?_⟩;obtain⟨K,R,k2,k3⟩:=i;exact⟨K,R,k2,k3⟩
 ·intro k l G r2 g g' e hl p ab m av aw;obtain⟨F,p1,p2⟩:=B k G e p;obtain⟨H,p3,p4⟩:=B l r2 hl ab;have e1:=hR.inj _ _ _ _ g g' p1 p3 (by rw[<- p2];exact m) (by rw[<- p4];exact av) aw;rcases eD z rfl rfl v e p with⟨rfl,_⟩|⟨o,n,xs,rfl,ho,_⟩
  ·rcases eD z rfl rfl v hl ab with⟨rfl,_⟩|⟨o',n',ax,rfl,ay,_⟩
   ·rfl
   ·rw[vG,lH v]at e1;have:=e9 0 o';have:=cQ;omega
  ·rcases eD z rfl rfl v hl ab with⟨rfl,_⟩|⟨o',n',ax,rfl,ay,_⟩
   ·rw[vG,lH v]at e1;have:=e9 0 o;have:=cQ;omega
   ·rw[lH v,lH v]at e1;rw[(uc nL nL e1).2]
 ·intro k r' e hv p;rcases eD z rfl rfl v e p with⟨rfl,rfl⟩|⟨o,n,xs,rfl,ho,rfl⟩
  ·refine⟨⟨_,fJ hx hm hc v,rfl⟩,by rw[T,h0,ag],fun g m =>?_⟩;rw[ag]at m;cases m;exact ao
  ·exact absurd hv (hV o)
 ·intro k r' g e p ad m j x' s' n A;rcases eD z rfl rfl v e p with⟨rfl,rfl⟩|⟨o,n',xs,rfl,ho,rfl⟩;rotate_left
  ·cases ad
  simp only[ahu,aeV]at A;obtain⟨d0,O,az⟩:=A;obtain⟨aB,rfl,rfl,rfl⟩:=rG az;rw[T]at m;obtain⟨_,u,R,k2⟩:=hR.pha 0 _ g wU rfl m j (NK 0 j) s' n (by simp only[ahu,O,Option.map_some,rP]);refine⟨⟨v,.inr rfl⟩,u,R,fun _ _ =>?_⟩;have:=k2 _ (uY O);rw[aa];exact this
 ·intro y r' j x' s' n hy p ad A ae;have E:=(Z.rows y r' p).2;cases m:blk y with
  | none =>
   rw[m]at E;have E:r'.cells=[]:=E;rw[E]at A;cases A
  | some g =>
   obtain⟨F,H⟩:=(Z.pha y r' g p ad m j x' s' n A).1;rcases H with rfl|rfl
   ·have:rt (PK+y)=PK+y:=ig (by omega);rw[this]at ae;omega
   ·rw[vf F]at ae;rw[Aq F]at hy;exact hy ae
end
section
variable {P:Program} {T:Nat->Option Ty} {N:Nat} {M:Nat->Prop} {L:jM} {w0:World} {blk:Nat->Option (Nat×Nat)} {V:Nat->Nat->Prop} {t:Nat->D} {h:Nat->Option Row} {a:Act} {w:World} {e:Nat} {o:Oper} {Γ:Env}
def Inv.aaY (hI:Inv N M L w0 blk V t (EH h) a w) {x:Nat} {r:Row} {I s q n j:Nat} {o p:List D} (O:h x=some r) (P:r.mp=true) (Q:r.cells=[.nr I s q o]) (hz:r.fz=false) (B:x<PK) (hj:o[j]? = some (.nx n p)) (hn:p.length=n*s) :
  Inv N M L w0 blk V t (EH (bY h x (some ⟨r.v,r.ty,[.nr I s q (o.set j (.sl false false n p))],false,r.lst,true⟩))) a w∧∀b,Own M (EH (bY h x (some ⟨r.v,r.ty,[.nr I s q (o.set j (.sl false false n p))],false,r.lst,true⟩))) blk b->Own M (EH h) blk b:=by
 have aa:j<o.length:=(afp.1 hj).1;obtain⟨g,R⟩:∃g,blk x=some g:=by
  cases R:blk x with
  | some g=>exact⟨g,rfl⟩
  | none =>
   have:=(hI.rows x _ (fJ O P Q B)).2;rw[R]at this;have Y:o.mapIdx (rP x s)=[]:=this;have h2:o.length=0:=by
    have:=congrArg List.length Y;simpa using this
   omega
 have hK:EH h (NK x j)=some ⟨q,I,p,false,true,false⟩:=by rw[eL O P Q B,hj,hz];rfl
 obtain⟨u,ab,ai⟩:=hI.Fz O P Q B R hj;obtain⟨S,ad,aj,ak⟩:=hI.Cx O P Q B R;have al:=hI.freeze [NK x j];have an:RP w (Own M (aW (EH h) (jw (EH h) [NK x j])) blk) (.sl false false n p) u:=by
  have hW:=hI.weaken (V':=fun y v=>V y v∨(y=NK x j∧v=q)) (fun _ _ h =>.inl h);have ao:RT w (Own M (EH h) blk) (EH h) blk (fun y v=>V y v∨(y=NK x j∧v=q)) (.buf (NK x j) q s 0 n) u:=by
   refine⟨.inr ⟨rfl,rfl⟩,fun Z au av =>?_⟩;rcases ai with⟨g1,c,N',aq,k1,k2,k3,k4,k5,k6⟩|⟨k1,k2,k3⟩
   ·exact .inl ⟨g1,g1.2,c,N',aq,k1,k2,fun _=>⟨by omega,k3⟩,k4,k5,k6⟩
   ·exact .inr ⟨k1,k2,k3⟩
  have hl:live (EH h) (NK x j) q=some ⟨q,I,p,false,true,false⟩:=by
   unfold live;rw[hK];simp
  have ar:Am.cG (EH h) (.buf (NK x j) q s 0 n)=some (.sl false false n p,[NK x j]):=by
   simp only[Am.cG,Am.bH,Am.dQ,hl,afH,agk];rw[if_pos (by rw[hn];exact aeX _),<- hn,agY];rfl
  exact hW.cG ar (hW.fF [NK x j]) ao
 generalize z:bY (EH h) (NK x j) none=Y;have C:bY (aW (EH h) (jw (EH h) [NK x j])) (NK x j) none=Y:=by
  rw[<- z];funext k
  by_cases f:k=NK x j
  ·rw[f,aA,aA]
  ·rw[aC _ _ f,aC _ _ f,AW];rw[if_neg (by simpa using f)]
 have T:=al.drop (NK x j);rw[C]at T;have U:∀b,Own M Y blk b->Own M (aW (EH h) (jw (EH h) [NK x j])) blk b:=by
  rintro b (W|⟨k,Z,X,f,E,l,J⟩)
  ·exact .inl W
  ·refine .inr ⟨k,Z,X,?_,E,l,J⟩;rw[<- C]at f
   by_cases m:k=NK x j
   ·rw[m,aA]at f;cases f
   ·rwa [aC _ _ m]at f
 have ae:Y x=some ⟨r.v,r.ty,o.mapIdx (rP x s),r.fz,r.lst,true⟩:=by
  rw[<- z,aC _ _ (by have:=e9 x j;have:=cQ;omega)];exact fJ O P Q B
 have ag:∀(i:Nat) d,(o.set j (.sl false false n p))[i]? = some d->(i=j∧d=.sl false false n p)∨(i≠j∧o[i]? = some d):=by
  intro i d A
  by_cases hji:i=j
  ·subst hji;rw[ahv aa]at A;exact .inl ⟨rfl,by simpa using A.symm⟩
  ·rw[ahw (fun e=>hji e.symm)]at A;exact .inr ⟨hji,A⟩
 have hB:=T.kg (x:=x) (r:=⟨r.v,r.ty,o.mapIdx (rP x s),r.fz,r.lst,true⟩) (r0:=⟨r.v,r.ty,(o.set j (.sl false false n p)).mapIdx (rP x s),false,r.lst,true⟩) (w':=w) ae hz rfl rfl rfl rfl (aeX _) (fun _ _ _=>rfl) (by
   rw[R];refine⟨rfl,.inr ⟨fun d hd =>?_,S,ad,by simp only[aht,agW];exact aj,fun i d A =>?_⟩⟩
   ·obtain⟨i,A⟩:=afi hd;simp only[ahu,aeV]at A;obtain⟨d0,G,rfl⟩:=A;exact lP _ _ _ _
   ·simp only[ahu,aeV]at A;obtain⟨d0,G,rfl⟩:=A;rcases ag i d0 G with⟨rfl,rfl⟩|⟨hij,F⟩
    ·have e1:S.getD (g.2+i) undef=u:=by
      have:=bd ad (show g.2+i<S.size by omega);rw[this]at ab;simpa using ab
     rw[e1];exact an.less U
    ·by_cases H:fD d0=true
     ·rw[kh H];refine (fa H).2.2.2 ((ak i d0 F H).less fun b W =>?_);rcases W with W|⟨k,Z,X,f,E,l,J⟩
      ·exact .inl W
      ·refine .inr ⟨k,Z,X,?_,E,l,J⟩;rw[<- z]at f
       by_cases m:k=NK x j
       ·rw[m,aA]at f;cases f
       ·rwa [aC _ _ m]at f
     ·cases d0<;>first|trivial|exact absurd rfl H) (fun h=>by cases h) (fun _ X l i x' s' n' A=>by
   rw[R]at l;cases l;simp only[ahu,aeV]at A;obtain⟨d0,G,J⟩:=A;obtain⟨aw,rfl,rfl,rfl⟩:=rG J;rcases ag i _ G with⟨rfl,F⟩|⟨hij,F⟩
   ·cases F
   ·exact T.pha x _ g ae rfl R i (NK x i) s' n' (by simp only[ahu,F,Option.map_some,rP]))
 have K:bY Y x (some (⟨r.v,r.ty,(o.set j (.sl false false n p)).mapIdx (rP x s),false,r.lst,true⟩:Row))=EH (bY h x (some ⟨r.v,r.ty,[.nr I s q (o.set j (.sl false false n p))],false,r.lst,true⟩)):=by
  have ah:bY h x (some (⟨r.v,r.ty,[.nr I s q (o.set j (.sl false false n p))],false,r.lst,true⟩:Row)) x=some ⟨r.v,r.ty,[.nr I s q (o.set j (.sl false false n p))],false,r.lst,true⟩:=aA _ _ _;funext k
  by_cases hkx:rt k=x
  rotate_left
  ·rw[aC _ _ (fun e=>hkx (by rw[e,ig (by have:=cQ;omega)])),<- z,aC _ _ (fun e=>hkx (by rw[e,vf B]))];exact ec (by rw[aC _ _ hkx])
  rcases pF hkx with rfl|⟨i,rfl⟩
  ·rw[aA,fJ ah rfl rfl B]
  ·rw[aC _ _ (by have:=e9 x i;have:=cQ;omega),eL ah rfl rfl B,<- z]
   by_cases hij:i=j
   ·rw[hij,aA,ahv aa];rfl
   ·rw[aC _ _ (fun e=>hij (uc B B e).2),eL O P Q B,ahw (fun e=>hij e.symm),hz]
 rw[K]at hB;refine⟨hB,?_⟩;rintro b (W|⟨k,Z,X,f,E,l,J⟩)
 ·exact .inl W
 ·rw[<- K]at f
  by_cases hkx:k=x
  ·subst hkx;exact .inr ⟨k,_,X,fJ O P Q B,hz,l,J⟩
  ·rw[aC _ _ hkx,<- z]at f
   by_cases m:k=NK x j
   ·rw[m,aA]at f;cases f
   ·rw[aC _ _ m]at f;exact .inr ⟨k,Z,X,f,E,l,J⟩
end
end Go.Proofs.YtekhokjkphgphaaGreat.Am
