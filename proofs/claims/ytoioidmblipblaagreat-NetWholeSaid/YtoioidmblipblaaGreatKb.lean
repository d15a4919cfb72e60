import Derived.Test.YtoioidmblipblaaGreatKa
set_option linter.unusedSimpArgs false
set_option linter.unusedVariables false
noncomputable section
open Go.Proofs.Tryz
namespace Go.Proofs.YtoioidmblipblaaGreat.Am
open Go.RowKit
section
variable {P:Program} {T:Nat->Option Ty} {N:Nat} {M:Nat->Prop} {L:jg} {w0:World} {blk:Nat->Option (Nat×Nat)} {V:Nat->Nat->Prop} {t:Nat->D} {h:Nat->Option Row} {a:Act} {w:World} {e:Nat} {o:Oper} {Γ:Env}
theorem abd (hT:ig P T) {Y:Nat} {φ:Ty} (hφ:T Y=some φ) (hs:kh φ.ds=true) {x y:D} {u v:Value} {b:Bool} {M':Nat->Prop} (Z:RP w M' x u) (hy:RP w M' y v) (O:PZ x y=some b) (n:Nat) :
  (∃d,P.underlying Y=some d)∧((∃k,φ.ds=.int k∧∃k' i j,x=.int k' i∧y=.int k' j)∨(φ.ds=.bool∧∃i j,x=.bool i∧y=.bool j)∨(φ.ds=.str∧∃i j,x=.str i∧y=.str j)->(Op.equalIn (n+1) Y u v).run P w=.ok b w):=by
 obtain⟨d,X,U⟩:=under hT hφ;refine⟨⟨d,X⟩,?_⟩;rintro (⟨k,hk,k',i,j,rfl,rfl⟩|⟨hk,i,j,rfl,rfl⟩|⟨hk,i,j,rfl,rfl⟩)
 ·rw[hk]at U;have:=xz U;subst this;cases Z;cases hy;simp only[PZ,if_true,agL]at O;subst O;simp[Op.equalIn,run_underlying X]
 ·rw[hk]at U;have:=uY U;subst this;cases Z;cases hy;simp only[PZ,agL]at O;subst O;simp[Op.equalIn,run_underlying X]
 ·rw[hk]at U;have:=qP U;subst this;cases Z;cases hy;simp only[PZ,agL]at O;subst O;simp[Op.equalIn,run_underlying X]
theorem Vk {x y:D} {b:Bool} {s:Ds} (O:PZ x y=some b) (hk:kindOk s x=true) :
  (∃k,s=.int k∧∃k' i j,x=.int k' i∧y=.int k' j)∨(s=.bool∧∃i j,x=.bool i∧y=.bool j)∨(s=.str∧∃i j,x=.str i∧y=.str j):=by
 cases x<;>cases y<;>simp only[PZ]at O<;>try (cases O;done)
 ·rename_i k i k' j;split at O
  ·rename_i he;subst he;cases s<;>simp[kindOk]at hk;exact .inl ⟨_,rfl,_,_,_,rfl,rfl⟩
  ·cases O
 ·cases s<;>simp[kindOk]at hk;exact .inr (.inl ⟨rfl,_,_,rfl,rfl⟩)
 ·cases s<;>simp[kindOk]at hk;exact .inr (.inr ⟨rfl,_,_,rfl,rfl⟩)
theorem JH (X:Inv N M L w0 blk V t h a w) {x:Operand} {i:Nat} {xs:List D} {d:D} (ho:o.op=.extract x i) (hx:ev t x=.tup xs) (Y:xs[i]? = some d):dY P o a w (bd N M L w0 V t h a e o.dst ⟨d,[]⟩):=by
 have Z:=X.ev x;rw[hx]at Z;have U:RP w (Own M h blk) (.tup xs) (a.eval x):=Z;generalize hu:a.eval x=u at *;cases U with
 | tup xs us h1 h2 =>
  have aa:=(ag5.1 Y).1;refine aL (v:=us.getD i undef) (w':=w) ?_ (bd.dO X (bz (h2 i d Y)));have O:us[i]? = some (us.getD i undef):=by simp[List.getD,agP (show i<us.length by omega)]
  generalize us.getD i undef=v at *;simp[execOp,ho,Instr.extract,hu,O]
theorem JG (X:ig P T) (Y:Inv N M L w0 blk V t h a w) {x:Operand} {src ty:Nat} {τ σ:Ty} {k k':IntKind} {n:Int} (ho:o.op=.convert src ty x) (hτ:T ty=some τ) (hσ:T src=some σ) (U:τ.ds=.int k') (hx:ev t x=.int k n) :
  dY P o a w (bd N M L w0 V t h a e o.dst ⟨.int k' (k'.wrap n),[]⟩):=by
 have Z:=Y.ev x;rw[hx]at Z;have hu:=ln Z;obtain⟨d,hd,hc⟩:=under X hτ;obtain⟨d2,O,_⟩:=under X hσ;rw[U]at hc;have:=xz hc;subst this;refine aL (v := .int k' (k'.wrap n)) (w':=w) ?_ (bd.dO Y (bz (.int _ _)));have:=run_convert_int (P:=P) (w:=w) src ty k n (by simp[O]);simp[execOp,ho,hu,convert,run_underlying hd,run_underlying O,Conv.intToInt]
theorem Vf (U:Inv N M L w0 blk V t h a w) {x:Operand} {op:UnOp} {ty:Nat} {d:D} (X:o.op=.unOp op ty x) (O:Gb op (ev t x)=some d):dY P o a w (bd N M L w0 V t h a e o.dst ⟨d,[]⟩):=by
 have Y:=U.ev x;generalize ev t x=q at *;cases q with
 | int k n =>
  have hu:=ln Y;cases op<;>simp only[Gb,agL]at O<;>try (cases O;done)
  all_goals
   subst O;refine aL (w':=w) ?_ (bd.dO U (bz (.int _ _)));simp[execOp,X,hu,Op.unary,Op.intArith,Op.intBits,Cu]
 | bool b =>
  have hu:=uP Y;cases op<;>simp only[Gb,agL]at O<;>try (cases O;done)
  all_goals
   subst O;refine aL (w':=w) ?_ (bd.dO U (bz (.bool _)));simp[execOp,X,hu,Op.unary]
 | _=>simp[Gb]at O
theorem u6:∀ {xs:List D},pg xs=true->∀x∈xs,gx x=true
 | [],_,x,O=>by simp at O
 | y::U,h,x,O=>by
  simp only[pg,ahd]at h;rcases agJ.1 O with rfl|O
  ·exact h.1
  ·exact u6 h.2 x O
theorem RP.flat {X M2:Nat->Prop} {d:D} {u:Value} (Y:RP w X d u) (O:gx d=true):RP w M2 d u:=by
 induction Y with
 | int k n=>exact .int k n
 | bool b=>exact .bool b
 | str s=>exact .str s
 | sl A c nl tight n xs us h1 h2 h3 h4 h5 h6 h7 h8 ih=>simp[gx]at O
 | agg xs us h1 h2 h3 ih =>
  simp only[gx]at O;exact .agg xs us h1 (fun j x U=>ih j x U (u6 O x (ag4 U))) h3
 | tup xs us h1 h2 ih =>
  simp only[gx]at O;exact .tup xs us h1 (fun j x U=>ih j x U (u6 O x (ag4 U)))
 | ip xs ad us h6 h7 h8 ih=>simp[gx]at O
 | fn f=>exact .fn f
 | ali x v s o n u h1=>simp[gx]at O
 | mpc ks vs mb us h1 h2 h3 h4 ih=>simp[gx]at O
 | alm x v u h1=>simp[gx]at O
 | clo f Z xs us h1 h2 ih=>simp[gx]at O
theorem w9 {h:Nat->Option Row} {blk:Nat->Option (Nat×Nat)} {old:Option Nat} {b:Nat} (X:Own M (forget h old) blk b):Own M h blk b:=by
 rcases X with X|⟨x,r,g,U,Y,Z,he⟩
 ·exact .inl X
 ·refine .inr ⟨x,r,g,?_,Y,Z,he⟩;cases old with
  | none=>exact U
  | some y =>
   simp only[forget]at U
   by_cases O:x=y
   ·subst O;simp[bI]at U
   ·rwa [av _ _ O]at U
theorem Inv.fresh (X:Inv N M L w0 blk V t h a w) {w':World} {v:Value} {d ty s n:Nat} {cells:List D} {old dst:Option Nat} (O:dst=some d) (hV:iR N V d e)
  (hb:ey (fun b=>∃y g,old=some y∧blk y=some g∧b=g.1) w w') (hold:∀y,old=some y->∃r,h y=some r∧r.fz=false)
  (Z:(∃(g:Nat×Nat) (c:Nat) (cs:Array Value),v=.slice (some ⟨g.1,g.2,none⟩) n c∧(w.heap.size<=g.1∨∃y g0,old=some y∧blk y=some g0∧g.1=g0.1)∧w'.heap[g.1]? = some (.cells cs ty (0,0))∧n<=c∧c<=maxLen∧c*s+g.2=cs.size∧g.2+cells.length<=cs.size ∧
   ∀(j:Nat) d,cells[j]? = some d->ba d=true∧RP w' (fun b=>Own M (forget h old) blk b∨b=g.1) d (cs.getD (g.2+j) undef))∨(n=0∧cells=[]∧∃A,v=.slice A 0 0)) :
  ∃blk',Inv N M L w0 blk' (fun x k=>V x k∨(dst=some x∧k=e)) t (bI (forget h old) d (some ⟨e,ty,cells,false,true,false⟩)) a w' ∧
   RT w' (Own M (bI (forget h old) d (some ⟨e,ty,cells,false,true,false⟩)) blk') (bI (forget h old) d (some ⟨e,ty,cells,false,true,false⟩)) blk' (fun x k=>V x k∨(dst=some x∧k=e)) (.buf d e s 0 n) v:=by
 have Y:∀ {blk':Nat->Option (Nat×Nat)},Inv N M L w0 blk' (fun x k=>V x k∨(x=d∧k=e)) t (bI (forget h old) d (some ⟨e,ty,cells,false,true,false⟩)) a w'->Inv N M L w0 blk' (fun x k=>V x k∨(dst=some x∧k=e)) t (bI (forget h old) d (some ⟨e,ty,cells,false,true,false⟩)) a w':=fun hJ=>hJ.weaken fun x k U=>by
  rcases U with U|⟨rfl,rfl⟩
  ·exact .inl U
  ·exact .inr ⟨O,rfl⟩
 rcases Z with⟨g,c,cs,rfl,g1,g2,g3,g4,g5,g6,g7⟩|⟨rfl,rfl,A,rfl⟩
 ·refine⟨bI blk d (some g),Y (X.Qc (old:=old) hb.os hb.tape hb.output hb.size (fun k hk hn=>hb.block k hk (fun⟨y,g0,h1,h2,h3⟩=>hn y g0 h1 h2 h3)) hold rfl hV ⟨g1,cs,g2,g6,g7⟩),?_⟩;exact rI (.inr ⟨O,rfl⟩) (aq _ _ _) g2 g3 g4 g5
 ·refine⟨bI blk d none,Y (X.Qc (go:=none) (old:=old) hb.os hb.tape hb.output hb.size (fun k hk hn=>hb.block k hk (fun⟨y,g0,h1,h2,h3⟩=>hn y g0 h1 h2 h3)) hold rfl hV rfl),?_⟩;exact⟨.inr ⟨O,rfl⟩,fun _ _ _ =>.inr ⟨aq _ _ _,rfl,A,rfl⟩⟩
theorem RP.less {M1 M2:Nat->Prop} {d:D} {u:Value} (O:RP w M1 d u) (hm:∀b,M2 b->M1 b):RP w M2 d u:=O.keep fun _ h1 h2=>⟨h1,fun U=>h2 (hm _ U),rfl⟩
theorem Inv.Cr (Y:Inv N M L w0 blk V t h a w) {ds agx:List D} {fr:List Nat} {vs:Array Value} {M':Nat->Prop} (O:Am.bx h ds=some (agx,fr)) (Z:nP M h blk fr M') (U:vs.size=ds.length)
  (hr:∀(j:Nat) d,ds[j]? = some d->RT w (Own M h blk) h blk V d (vs.getD j undef)):xo w M' agx vs:=by
 obtain⟨i1,i2⟩:=Y.bx (us:=vs.toList) O Z (by simpa using U) (fun j d X=>by have:=hr j d X;simpa [List.getD] using this);refine⟨by simpa using i1,fun j d X =>?_,fun b hb=>(Y.tab b hb).less Z.le⟩;have:=i2 j d X;simpa [List.getD] using this
theorem Lm (hΓ:bH P Γ) (hI:Inv N M L w0 blk V t h a w) {g:Nat} {dst:Option Nat} {E:bF} {ds:List D} {vs:Array Value} (Y:td Γ h e dst g ds=some E) (hV:∀d,dst=some d->iR N V d e) (aa:vs.size=ds.length)
  (hr:∀(j:Nat) d,ds[j]? = some d->RT w (Own M h blk) h blk V d (vs.getD j undef)):dX P g∧Calls P g vs w fun e' w'=>∃v,e'=.returned v∧bd N M L w0 V t h a e dst E v w':=by
 unfold td at Y;split at Y
 ·rename_i agx fr ab;split at Y
  ·rename_i r out hs;simp only[agL]at Y;subst Y;obtain⟨U,ad⟩:=hΓ.calls g none agx _ _ hs;refine⟨ad,?_⟩
   by_cases O:gx r=true
   ·refine (U w _ vs (fun b X=>hI.xa X.1) (hI.Cr ab (hI.HY fr) aa hr)).mono fun e' w' hg =>?_;obtain⟨v,he,X,Z⟩:=hg;refine⟨v,he,?_⟩;rw[if_pos O];exact bd.dO (hI.later X) (bz (RP.flat Z O))
   ·have hIf:=hI.freeze fr;refine (U w _ vs (fun b X=>hIf.xa X) (hI.Cr ab (hI.fB fr) aa hr)).mono fun e' w' hg =>?_;obtain⟨v,he,X,Z⟩:=hg;refine⟨v,he,?_⟩;rw[if_neg O];exact⟨blk,(hIf.later X).weaken fun _ _ h =>.inl h,bz Z⟩
  ·rename_i ty s n cells out hs;split at Y
   ·rename_i d;split at Y
    ·rename_i ae;simp only[agL]at Y;subst Y;obtain⟨U,ad⟩:=hΓ.calls g none agx _ _ hs;refine⟨ad,?_⟩
     by_cases O:pg cells=true
     ·refine (U w _ vs (fun b X=>hI.xa X.1) (hI.Cr ab (hI.HY fr) aa hr)).mono fun e' w' hg =>?_;obtain⟨v,he,X,Z⟩:=hg;refine⟨v,he,?_⟩;rw[if_pos O];exact hI.fresh (old:=none) rfl (hV d rfl) (ey.yj X) (fun y hy=>by cases hy) (by
       rcases Z with⟨g,c,cs,h1,h2,h3,h4,h5,h6,h7,h8⟩|Z
       ·exact .inl ⟨g,c,cs,h1,.inl (h2.resolve_right id),h3,h4,h5,h6,h7,fun j x hj=>⟨(h8 j x hj).1,(h8 j x hj).2.flat (u6 O x (ag4 hj))⟩⟩
       ·exact .inr Z)
     ·have hIf:=hI.freeze fr;refine (U w _ vs (fun b X=>hIf.xa X) (hI.Cr ab (hI.fB fr) aa hr)).mono fun e' w' hg =>?_;obtain⟨v,he,X,Z⟩:=hg;refine⟨v,he,?_⟩;rw[if_neg O];have:=hIf.fresh (e:=e) (ty:=ty) (s:=s) (cells:=cells) (n:=n) (v:=v) (old:=none) (dst:=some d) rfl (hV d rfl) (ey.yj X) (fun y hy=>by cases hy) (by
       rcases Z with⟨g,c,cs,h1,h2,h3,h4,h5,h6,h7,h8⟩|Z
       ·exact .inl ⟨g,c,cs,h1,.inl (h2.resolve_right id),h3,h4,h5,h6,h7,h8⟩
       ·exact .inr Z)
      unfold bd;rw[gq];exact this
    ·cases Y
   ·cases Y
  ·cases Y
 ·cases Y
theorem Inv.acb (Y:Inv N M L w0 blk V t h a w) {x v:Nat} {r:Row} (X:live h x v=some r) {u:Value} : (∀s o n,RT w (Own M h blk) h blk V (.buf x v s o n) u->z8 w (blk x) (.buf 0 0 s o n) u)∧(∀o,RT w (Own M h blk) h blk V (.ptr x v o) u->z8 w (blk x) (.ptr 0 0 o) u):=by
 obtain⟨O,U⟩:=cq X;exact⟨fun s o n hr=>⟨trivial,fun r' _ _=>hr.2 r O U⟩,fun o hr=>⟨trivial,fun r' _ _=>hr.2 r O U⟩⟩
theorem Inv.Yp (Y:Inv N M L w0 blk V t h a w) {x v:Nat} {r:Row} (O:wW h x v=some r) {u:Value} (hr:RT w (Own M h blk) h blk V (.mp x v) u):z8 w (blk x) (.mp 0 0) u:=by
 obtain⟨U,X,_⟩:=AR O;exact⟨trivial,fun r' _ _=>hr.2 r U X⟩
theorem Q2 {d0:D} {x v:Nat} {r:Row} (O:xZ d0 h x v=some r):(h x=some r∧r.v=v)∧qX r=true:=by
 unfold xZ at O;split at O
 ·obtain⟨h1,h2,_,h3⟩:=AR O;exact⟨⟨h1,h2⟩,h3⟩
 ·exact⟨cq O,sf (gM O)⟩
theorem CF (hΓ : bH P Γ) (hI : Inv N M L w0 blk V t h a w) {g x v : Nat} {d0 : D} {dst : Option Nat} {E : bF} {ds : List D} {u0 : Value} {vs : Array Value} (U : oU Γ h e dst g x v d0 ds = some E) (hV : ∀ d, dst = some d -> iR N V d e) (ao : V x v)
    (h0 : ∀ r, xZ d0 h x v = some r -> z8 w (blk x) d0 u0) (aq : vs.size = ds.length) (hr : ∀ (j : Nat) d, ds[j]? = some d -> RT w (Own M h blk) h blk V d (vs.getD j undef)) :
    dX P g ∧ Calls P g (#[u0] ++ vs) w fun e' w' => ∃ v, e' = .returned v ∧ bd N M L w0 V t h a e dst E v w' := by
  unfold oU at U;split at U
  · rename_i r hl
    obtain ⟨⟨hx, hv⟩, ar⟩ := Q2 hl;split at U
    · rename_i hz
      split at U
      · rename_i agx fr au
        split at U
        · rename_i aw
          have hIf := hI.freeze fr;have ab : aO h (iF h fr) x = some r := by rw [y3 aw]; exact hx
          have ax : ∀ b, sW (blk x) b -> Own M (aO h (iF h fr)) blk b := fun b ⟨g0, X, he⟩ => .inr ⟨x, r, g0, ab, hz, X, he.symm⟩;have hle : ∀ b, ((Own M (aO h (iF h fr)) blk b ∧ ¬ sW (blk x) b) ∨ sW (blk x) b) -> Own M (aO h (iF h fr)) blk b := fun b hb => hb.elim (·.1) (ax b);have Z := hI.Cr au (hI.fB fr) aq hr;have ae : xo w (fun b => (Own M (aO h (iF h fr)) blk b ∧ ¬ sW (blk x) b) ∨ sW (blk x) b) agx vs := ⟨Z.1, fun j d hj => (Z.2 j d hj).less hle, fun b hb => (Z.tab b hb).less hle⟩;have hrow : Sm w (fun b => (Own M (aO h (iF h fr)) blk b ∧ ¬ sW (blk x) b) ∨ sW (blk x) b) (blk x) { r with v := 0 } := by
            have := (hIf.rows x r ab).2;cases hg : blk x with
            | none => rw [hg] at this; exact this
            | some g0 =>
              rw [hg] at this hle;exact dU.keep (r' := { r with v := 0 }) this.2 rfl rfl rfl rfl (fun b h1 h2 => ⟨h1, fun hb => h2 (hle b hb), rfl⟩)
          have ai : ∀ (r2 : Option Row) b, Own M (bI (aO h (iF h fr)) x r2) blk b -> (Own M (aO h (iF h fr)) blk b ∧ ¬ sW (blk x) b) ∨ sW (blk x) b := by
            intro r2 b hb
            by_cases hi : sW (blk x) b
            · exact .inr hi
            · refine .inl ⟨?_, hi⟩
              rcases hb with hb | ⟨y, s, g0, hy, ay, X, he⟩
              · exact .inl hb
              · by_cases aj : y = x
                · subst aj; exact absurd ⟨g0, X, he.symm⟩ hi
                · rw [av _ _ aj] at hy
                  exact .inr ⟨y, s, g0, hy, ay, X, he⟩
          have key : ∀ {rk : RK} {out : Option Row}, Γ.sem g (some (d0, { r with v := 0 })) agx = some (rk, out) -> dX P g ∧ Calls P g (#[u0] ++ vs) w fun e' w' => ∃ u, e' = .returned u ∧ ey (sW (blk x)) w w' ∧
              (∀ r1, out = some r1 -> Inv N M L w0 blk V t (bI (aO h (iF h fr)) x (some { r1 with v := v })) a w' ∧ r1.ty = r.ty) ∧
              (match rk with
               | .same s o n => z8 w' (blk x) (.buf 0 0 s o n) u
               | .clean d => RP w' (fun b => (Own M (aO h (iF h fr)) blk b ∧ ¬ sW (blk x) b) ∨ sW (blk x) b) d u
               | .fresh ty s n cells => s3 w w' (fun b => Own M (aO h (iF h fr)) blk b ∧ ¬ sW (blk x) b) (sW (blk x)) u (.fresh ty s n cells)) := by
            intro rk out hs;obtain ⟨O, aa⟩ := hΓ.calls g _ agx _ _ hs;refine ⟨aa, ?_⟩;refine (O w (fun b => Own M (aO h (iF h fr)) blk b ∧ ¬ sW (blk x) b) (blk x) u0 vs (fun b hb => hIf.xa hb.1) (fun b hb hb' => hb'.2 hb) hz (by simpa [qX] using ar) hrow (h0 r hl) ae).mono fun e' w' hg => ?_;obtain ⟨u, he, hb, ho, hk⟩ := hg;refine ⟨u, he, hb, fun r1 az => ?_, hk⟩;subst az;obtain ⟨o1, o2, ⟨aC, aA⟩, o3, o4⟩ := ho;refine ⟨?_, o1⟩;have := hIf.jC (r0 := { r1 with v := v }) (w' := w') ab hz hv.symm hb.os hb.tape hb.output hb.size (fun b aB hb2 => hb.block b aB (fun ⟨g0, X, he⟩ => hb2 g0 X he)) (by
              cases hg : blk x with
              | none => rw [hg] at o4; exact o4
              | some g0 =>
                rw [hg] at o3 o4;refine ⟨o3 g0 rfl, dU.keep (r' := { r1 with v := v }) o4 rfl rfl rfl rfl (fun b h1 h2 => ⟨h1, fun hb => h2 ?_, rfl⟩)⟩
                by_cases hi : sW (some g0) b
                · exact .inr hi
                · exact .inl ⟨hb, hi⟩) (fun h => by rw [show ({ r1 with v := v } : Row).fz = r1.fz from rfl, o2] at h; cases h) (fun hm g0 _ j x' s n hj => by
                  obtain ⟨ks, aD, hc⟩ := yb aA hm;rw [show ({ r1 with v := v } : Row).cells = r1.cells from rfl, hc] at hj;cases j <;> simp at hj)
            exact this
          split at U
          · rename_i c r1 hs
            simp only [agL] at U;subst U;obtain ⟨aa, O⟩ := key hs;refine ⟨aa, O.mono fun e' w' hg => ?_⟩;obtain ⟨u, he, hb, ho, hk⟩ := hg;refine ⟨u, he, blk, ?_, ?_⟩
            · rw [gq]; exact (ho r1 rfl).1.weaken fun _ _ h => .inl h
            · rw [gq]; exact bz (RP.less hk (ai _))
          · rename_i s o' n r1 hs
            simp only [agL] at U;subst U;obtain ⟨aa, O⟩ := key hs;refine ⟨aa, O.mono fun e' w' hg => ?_⟩;obtain ⟨u, he, hb, ho, hk⟩ := hg;refine ⟨u, he, blk, ?_, ?_⟩
            · rw [gq]; exact (ho r1 rfl).1.weaken fun _ _ h => .inl h
            · rw [gq]
              exact ⟨.inl ao, fun r' _ _ => hk.2 ⟨0, 0, [], false, false, false⟩ rfl rfl⟩
          · rename_i ty s n cells hs
            split at U
            · rename_i d
              split at U
              · rename_i hd
                simp only [agL] at U;subst U;obtain ⟨aa, O⟩ := key hs;refine ⟨aa, O.mono fun e' w' hg => ?_⟩;obtain ⟨u, he, hb, _, hk⟩ := hg;refine ⟨u, he, ?_⟩;have := hIf.fresh (e := e) (ty := ty) (s := s) (cells := cells) (n := n) (v := u) (old := some x) (dst := some d) rfl (hV d rfl) (w' := w') ⟨hb.os, hb.tape, hb.output, hb.size, fun k hk hn => hb.block k hk (fun ⟨g0, X, he⟩ => hn ⟨x, g0, rfl, X, he⟩)⟩ (fun y hy => by cases hy; exact ⟨r, ab, hz⟩) (by
                  rcases hk with ⟨g, c, cs, h1, h2, h3, h4, h5, h6, h7, h8⟩ | hv
                  · refine .inl ⟨g, c, cs, h1, h2.imp id (fun ⟨g0, X, he⟩ => ⟨x, g0, rfl, X, he⟩), h3, h4, h5, h6, h7, fun j y hj => ⟨(h8 j y hj).1, ?_⟩⟩
                    refine (h8 j y hj).2.less fun b hb => ?_;rcases hb with hb | hb
                    · refine .inl ⟨?_, ?_⟩
                      · rcases hb with hb | ⟨z, s', g0, Y, ak, ag, ah⟩
                        · exact .inl hb
                        · simp only [forget] at Y
                          by_cases ad : z = x
                          · subst ad; simp [bI] at Y
                          · rw [av _ _ ad] at Y
                            exact .inr ⟨z, s', g0, Y, ak, ag, ah⟩
                      · rintro ⟨g1, al, an⟩
                        rcases hb with hb | ⟨z, s', g0, Y, ak, ag, ah⟩
                        · rw [an] at hb
                          exact hIf.notM ab al hb
                        · simp only [forget] at Y
                          by_cases ad : z = x
                          · subst ad; simp [bI] at Y
                          · rw [av _ _ ad] at Y
                            exact ad (hIf.inj z x s' r g0 g1 Y ab ag al (ah.trans an))
                    · exact .inr hb
                  · exact .inr hv)
                unfold bd;have e1 : iF h fr ++ [(x, none), (d, some ⟨e, ty, cells, false, true, false⟩)] = (iF h fr ++ [(x, none)]) ++ [(d, some ⟨e, ty, cells, false, true, false⟩)] := by simp
                rw [e1, gq, gq];exact this
              · cases U
            · cases U
          · cases U
        · cases U
      · cases U
    · cases U
  · cases U
inductive mg (Q:D->Value->Prop):List D->List Value->Prop
 | nil:mg Q [] []
 | cons {d:D} {u:Value} {ds:List D} {us:List Value} (h:Q d u) (hs:mg Q ds us):mg Q (d::ds) (u::us)
theorem mg.length {Q:D->Value->Prop} {ds:List D} {us:List Value} (h:mg Q ds us):us.length=ds.length:=by
 induction h with
 | nil=>rfl
 | cons h hs O=>simp[O]
theorem mg.of {Q:D->Value->Prop} : ∀ {ds:List D} {us:List Value},us.length=ds.length->(∀(j:Nat) d,ds[j]? = some d->Q d (us.getD j undef))->mg Q ds us
 | [],[],_,_ =>.nil
 | [],_::_,h,_=>by simp at h
 | _::_,[],h,_=>by simp at h
 | d::ds,u::us,h,O =>.cons (by simpa using O 0 d rfl) (mg.of (by simpa using h) fun j x U=>by simpa using O (j+1) x (by simpa using U))
theorem mg.at_ {Q:D->Value->Prop} {ds:List D} {us:List Value} (h:mg Q ds us):∀(j:Nat) d,ds[j]? = some d->∃u,us[j]? = some u∧Q d u:=by
 induction h with
 | nil=>intro j d O;simp at O
 | cons h hs U =>
  intro j d O;cases j with
  | zero=>simp only[List.getElem?_cons_zero,agL]at O;subst O;exact⟨_,rfl,h⟩
  | succ j=>simp only[List.getElem?_cons_succ]at O ⊢;exact U j d O
theorem mg.append {Q:D->Value->Prop} {ds O:List D} {us U:List Value} (h:mg Q ds us) (h':mg Q O U):mg Q (ds++O) (us++U):=by
 induction h with
 | nil=>exact h'
 | cons h hs X=>exact .cons h X
theorem mg.take {Q:D->Value->Prop} {ds:List D} {us:List Value} (h:mg Q ds us):∀n:Nat,mg Q (ds.take n) (us.take n):=by
 induction h with
 | nil=>intro n;simp;exact .nil
 | cons h hs O =>
  intro n;cases n with
  | zero=>exact .nil
  | succ n=>exact .cons h (O n)
theorem mg.drop {Q:D->Value->Prop} {ds:List D} {us:List Value} (h:mg Q ds us):∀n:Nat,mg Q (ds.drop n) (us.drop n):=by
 induction h with
 | nil=>intro n;simp;exact .nil
 | cons h hs O =>
  intro n;cases n with
  | zero=>exact .cons h hs
  | succ n=>exact O n
theorem mg.mono {Q Q':D->Value->Prop} {ds:List D} {us:List Value} (h:mg Q ds us) (O:∀d u,Q d u->Q' d u):mg Q' ds us:=by
 induction h with
 | nil=>exact .nil
 | cons h hs U=>exact .cons (O _ _ h) U
theorem Inv.aeC (hI:Inv N M L w0 blk V t h a w) {x v s n:Nat} {r:Row} {u:Value} (hl:live h x v=some r) (hr:RT w (Own M h blk) h blk V (.buf x v s 0 n) u) :
  ∃cs,WE w r.ty s (blk x) u n cs∧mg (fun d u=>ba d=true∧RP w (Own M h blk) d u) r.cells cs:=by
 obtain⟨Y,hv⟩:=cq hl;rcases hr.2 r Y hv with⟨g,o',c,N',ty,U,rfl,k2,k3,k4,k5⟩|⟨U,rfl,A,rfl⟩
 ·obtain⟨arr,h1,h2,h3⟩:=hI.D1 Y U (gM hl);obtain⟨k6,k7⟩:=k2 (.inr rfl);have hN:N'=arr.size:=by
   simp only[World.shape?,h1,agL,Prod.mk.injEq]at k5;exact k5.2.symm
  rw[ahb]at k6;subst k6;refine⟨(List.range r.cells.length).map fun j=>arr.getD (g.2+j) undef,.inl ⟨g,c,arr,U,rfl,h1,by omega,k3,k4,fun j y X =>?_⟩,mg.of (by simp) fun j d X =>?_⟩
  ·rw[agz,agA]at X;obtain⟨i,Z,rfl⟩:=X;have O:=(ag5.1 Z).1;rw[List.getElem?_range (by simpa using O)]at Z;cases Z;simp only[ag7]at O;rw[agH,ahP (show g.2+j<arr.size by omega)];rfl
  ·have O:=(ag5.1 X).1;have:=h3 j d X;simpa [List.getD,O] using this
 ·have:=(hI.rows x r Y).2;rw[U]at this;have hc:r.cells=[]:=this;exact⟨[],.inr ⟨U,rfl,rfl,A,rfl⟩,by rw[hc];exact .nil⟩
theorem Xi {g:Nat} {p:Nat×Nat×Nat} (O:acC P g p) (hI:Inv N M L w0 blk V t h a w) {dst:Option Nat} {E:bF} {ds:List D} {vs:Array Value} (Z:sI h e dst p ds=some E) (hV:∀d,dst=some d->iR N V d e) (ad:vs.size=ds.length)
  (hr:∀(j:Nat) d,ds[j]? = some d->RT w (Own M h blk) h blk V d (vs.getD j undef)):dX P g∧Calls P g vs w fun e' w'=>∃v,e'=.returned v∧bd N M L w0 V t h a e dst E v w':=by
 refine⟨O.callable,?_⟩;unfold sI at Z;split at Z<;>try (cases Z;done)
 rename_i x v s o n i y v' s' o' m;split at Z<;>try (cases Z;done)
 rename_i r r' d hl ae;split at Z<;>try (cases Z;done)
 rename_i hc;obtain⟨hz,aH,aF,an,hxy,rfl,rfl,ao,ag,rfl,rfl,hlen,U,aI,aJ,aq,ah⟩:=hc;simp only[agL]at Z;subst Z;obtain⟨hx,hv⟩:=cq hl;obtain⟨hy,aK⟩:=cq ae;have ar:vs = #[vs.getD 0 undef,vs.getD 1 undef,vs.getD 2 undef]:=by
  simp only[List.length_cons,List.length_nil]at ad;apply Array.ext
  ·simp[ad]
  ·intro j h1 h2;have:j=0∨j=1∨j=2:=by omega
   rcases this with rfl|rfl|rfl<;>simp[ahP h1]
 have h0:=hr 0 _ rfl;have h1:=ln (hr 1 _ rfl);have h2:=hr 2 _ rfl;obtain⟨cs,a1,a2⟩:=hI.aeC hl h0;obtain⟨cs',b1,b2⟩:=hI.aeC ae h2;rw[ao]at a1;rw[ag]at b1;have aa:∀ {ds:List D} {us:List Value},mg (fun d u=>ba d=true∧RP w (Own M h blk) d u) ds us->∀u∈us,u.oneCell'=true:=by
  intro ds us hR
  induction hR with
  | nil=>intro u hu;simp at hu
  | cons h hs ih =>
   intro u hu;rcases agJ.1 hu with rfl|hu
   ·exact h.2.qe h.1
   ·exact ih u hu
 rw[ar,h1,show i=((i.toNat:Nat):Int) by omega];refine (O.calls w (blk x) (blk y) _ _ i.toNat n m cs cs' a1 b1 (fun g g' hg au he=>hxy (hI.inj x y r r' g g' hx hy hg au he)) (by rw[a2.length,hlen]) (by rw[b2.length,U]) (aa a2) (aa b2) (by omega) aq ah).mono fun e' w' hg =>?_;obtain⟨u,he,hb,g,c,arr,rfl,g1,g2,g3,g4,g5,g6⟩:=hg;refine⟨_,he,?_⟩;have aw:=hI.drop y;have ax:bI h y none x=some r:=by rw[av _ _ hxy];exact hx
 have ab:mg (fun d u=>ba d=true∧RP w (Own M h blk) d u) (r.cells.take (i.toNat*p.2.1)++(r'.cells++r.cells.drop (i.toNat*p.2.1))) (cs.take (i.toNat*p.2.1)++(cs'++cs.drop (i.toNat*p.2.1))):=(a2.take _).append (b2.append (a2.drop _));have ai:∀b,Own M (forget (bI h y none) (some x)) blk b->Own M h blk b:=by
  intro b hb;rcases w9 hb with hb|⟨z,q,g0,X,ay,az,aA⟩
  ·exact .inl hb
  ·by_cases aj:z=y
   ·subst aj;simp[bI]at X
   ·rw[av _ _ aj]at X;exact .inr ⟨z,q,g0,X,ay,az,aA⟩
 have ak:∀b,sW (blk x) b->Own M h blk b:=fun b ⟨g0,Y,aB⟩ =>.inr ⟨x,r,g0,hx,hz,Y,aB.symm⟩;have al:=aw.fresh (e:=e) (ty:=p.1) (s:=p.2.1) (cells:=r.cells.take (i.toNat*p.2.1)++(r'.cells++r.cells.drop (i.toNat*p.2.1))) (n:=n+m) (v := .slice (some ⟨g.1,g.2,none⟩) (n+m) c) (old:=some x) (dst:=some d) rfl (hV d rfl) (w':=w')
  ⟨hb.os,hb.tape,hb.output,hb.size,fun k hk hn=>hb.block k hk (fun⟨g0,Y,he⟩=>hn ⟨x,g0,rfl,Y,he⟩)⟩ (fun z X=>by cases X;exact⟨r,ax,hz⟩)
  (.inl ⟨g,c,arr,rfl,g1.imp id (fun⟨g0,Y,he⟩=>⟨x,g0,rfl,Y,he⟩),g2,g3,g4,g5,?_,fun j d' hj =>?_⟩)
 ·unfold bd;exact al
 ·have aG:=O.pos;have e1:(cs.take (i.toNat*p.2.1)++(cs'++cs.drop (i.toNat*p.2.1))).length=(r.cells.take (i.toNat*p.2.1)++(r'.cells++r.cells.drop (i.toNat*p.2.1))).length:=ab.length;have e2:(r.cells.take (i.toNat*p.2.1)++(r'.cells++r.cells.drop (i.toNat*p.2.1))).length=(n+m)*p.2.1:=by
   have:=ahp p.2.1 (show i.toNat<=n by omega);rw[ahO,ahO,agV,agW,hlen,U,ahR this,ahS];omega
  rw[e2];have:=ahp p.2.1 g3;omega
 ·obtain⟨u,hu,aC,aD⟩:=ab.at_ j d' hj;have aE:=g6 j u hu;refine⟨aC,?_⟩;rw[agH,aE];refine aD.keep fun b q1 q2=>⟨agF q1 hb.size,?_,hb.block b q1 (fun hn=>q2 (ak b hn))⟩;rintro (hn|rfl)
  ·exact q2 (ai b hn)
  ·rcases g1 with g1|g1
   ·omega
   ·exact q2 (ak _ g1)
theorem Xg {g:Nat} {p:Grow} (ah:Wx P g p) (hI:Inv N M L w0 blk V t h a w) (hP:∀x v,V x v->x<N∨2*PK<=x) {dst:Option Nat} {E:bF} {ds:List D} {vs:Array Value} (Z:sH h p ds=some E) (ax:vs.size=ds.length)
  (hr:∀(j:Nat) d,ds[j]? = some d->RT w (Own M h blk) h blk V d (vs.getD j undef)):dX P g∧Calls P g vs w fun e' w'=>∃v,e'=.returned v∧bd N M L w0 V t h a e dst E v w':=by
 refine⟨ah.callable,?_⟩;unfold sH at Z;split at Z<;>try (cases Z;done)
 rename_i y v k rest;split at Z<;>try (cases Z;done)
 rename_i O k' s n r aJ hk;split at Z<;>try (cases Z;done)
 rename_i ai;obtain⟨rfl,ay,az,aA,aK,aL,a7,rfl,aM,hlen,aB⟩:=ai;split at Z<;>try (cases Z;done)
 rename_i cs ag;simp only[agL]at Z;subst Z;obtain⟨hy,hv,aC,aj⟩:=wX aJ;obtain⟨f1,f2,f3,f4⟩:=ah.flat _ _ _ ag;have h0:=hr 0 _ rfl;obtain⟨gy,Y,aD⟩:=h0.2 O hy hv;have ak:=hI.rowIs hy Y;unfold dU at ak;rw[aC]at ak;rcases ak with⟨_,_,aE,_⟩|⟨_,ya,y1,y2,_⟩
 ·rw[aj]at aE;cases aE
 replace y2:gy.2<ya.size:=by rw[aj]at y2;simp at y2;omega
 obtain⟨_,u,U,hph⟩:=hI.pha y O gy hy aC Y 0 _ _ _ (by rw[aj];rfl);rw[ahb]at U;have aN:y<N:=by have:=hP _ _ h0.1;omega
 have aP:ya[gy.2]? = some u:=by
  rw[aT y1 y2]at U;rw[agL,agH,ahP y2]at U;rw[ahP y2,<- U];rfl
 have a6:=hI.big;have a8:PK=1000000:=rfl;have hyk:y≠k':=by omega
 have aQ:WE w p.ty p.k (blk k') u n (r.cells.map KO):=by
  rcases hph r hk with⟨g',c,N',ty',g0,rfl,g2,g3,g4,g5⟩|⟨g0,rfl,A,rfl⟩
  ·obtain⟨arr,k1,k2,k3⟩:=hI.D1 hk g0 aK;rw[aM]at k1;refine .inl ⟨g',c,arr,g0,rfl,k1,?_,g3,g4,fun j x X =>?_⟩
   ·simp only[World.shape?,k1,agL,Prod.mk.injEq]at g5;omega
   ·rw[agz,agA]at X;obtain⟨d,X,rfl⟩:=X;have al:=(ag5.1 X).1;have:=HD (f1 d (ag4 X)) (k3 j d X).2;rw[ahP (by omega),<- this,agH,ahP (by omega)];rfl
  ·have:=(hI.rows k' r hk).2;rw[g0]at this;have hc:r.cells=[]:=this;exact .inr ⟨g0,rfl,by rw[hc];rfl,A,rfl⟩
 have aF:∀g,blk k'=some g->g.1≠gy.1:=fun g hg he=>hyk (hI.inj y k' O r gy g hy hk Y hg he.symm);have aR:vs = #[.pointer (some ⟨gy.1,gy.2,none⟩)]++(rest.map abt).toArray:=by
  apply Array.ext
  ·simp at ax ⊢;omega
  ·intro j h1 h2;cases j with
   | zero =>
    simp only[agH,ahP h1,Option.getD_some,Nat.add_zero]at aD;simp[aD]
   | succ j =>
    have X:j<rest.length:=by simp at ax;omega
    have hd:=hr (j+1) _ (by rw[ahM];exact agP X);have ad:=f2 _ (agO X);have aS:RP w (Own M h blk) rest[j] (vs.getD (j+1) undef):=by
     revert hd ad;generalize rest[j]=d;intro hd ad;cases d<;>first|exact hd|cases ad
    have:=Vm ad aS;simp only[agH,ahP h1,Option.getD_some]at this;rw[this];simp[ahT]
 rw[aR];refine (ah.calls w gy ya O.ty (blk k') u n r.cells rest cs y1 aP aQ aF hlen ag aB).mono fun e' w' an =>?_;obtain⟨he,hb,g,c,arr,q1,q2,q3,q4,q5,q6,q7⟩:=an;refine⟨_,he,bI blk k' (some g),?_,RP.int _ _⟩;have aU:∀v,¬V k' v:=fun v hv=>by have:=hP _ _ hv;omega
 generalize aV:Value.slice (some ⟨g.1,g.2,none⟩) (n+1) c=nu at q2;have ao:(w.setRow gy.1 (ya.setIfInBounds gy.2 nu)).heap[gy.1]? = some (.cells (ya.setIfInBounds gy.2 nu) O.ty (0,0)):=setRow_heap w gy.1 ya _ O.ty (0,0) y1;have ae:(w.setRow gy.1 (ya.setIfInBounds gy.2 nu)).heap.size=w.heap.size:=by simp[World.setRow]
 have hheap:∀b,b≠gy.1->(w.setRow gy.1 (ya.setIfInBounds gy.2 nu)).heap[b]? = w.heap[b]?:=by
  intro b hb;simp only[World.setRow,agM];rw[if_neg (Ne.symm hb)]
 have aW:=hI.jC (r0:=⟨O.v,O.ty,[],false,false,false⟩) (w':=w.setRow gy.1 (ya.setIfInBounds gy.2 nu)) hy aA rfl rfl rfl rfl (by rw[ae];exact agC _) (fun b _ hb=>hheap b (hb gy Y)) (by
  rw[Y];exact⟨by simp[World.shape?,ao,y1],_,ao,by simp;omega,fun j d X=>by simp at X⟩) (fun h=>by cases h)
 have aX:bI h y (some (⟨O.v,O.ty,[],false,false,false⟩:Row)) k'=some r:=by rw[av _ _ (Ne.symm hyk)];exact hk
 have hA:=aW.WQ (w':=w') (h1:=forget (bI h y (some ⟨O.v,O.ty,[],false,false,false⟩)) (some k')) (old:=some k') (d:=k') (r0:=⟨r.v,p.ty,r.cells++cs,false,true,false⟩) (go:=some g) (y0:=y) hb.os hb.tape hb.output (by rw[ae];exact hb.size)
  (fun b al hn=>by
   by_cases ar:b=gy.1
   ·subst ar;rw[q2,ao]
   ·rw[hheap b ar];refine hb.block b (by rw[ae]at al;exact al) ?_;rintro (hh|⟨g0,au,hh⟩)
    ·exact ar hh
    ·exact hn k' g0 rfl au hh) (fun y' aY=>by cases aY;exact⟨r,aX,aL⟩) rfl ay aN aU
  (fun r' aw=>by
   simp only[forget]at aw;rw[av _ _ hyk,aq]at aw;cases aw;rfl) (by
  refine⟨q1.imp (fun hh=>by rw[ae];exact hh) (fun⟨g0,au,hh⟩=>⟨k',g0,rfl,au,hh⟩),arr,q3,?_,fun j d X =>?_⟩
  ·simp only[ahO,f4,hlen];have:=ahp p.k q4;rw[ahS]at this;omega
  ·have aZ:AL d=true:=by
    rcases ahU.1 (ag4 X) with hm|hm
    ·exact f1 d hm
    ·exact f3 d hm
   have hx:=q7 j (KO d) (by rw[agz];simp only at X;rw[X];rfl);have:arr.getD (g.2+j) undef=KO d:=by rw[agH,hx];rfl
   rw[this];exact X2 aZ) rfl
 have a1:bI (forget (bI h y (some (⟨O.v,O.ty,[],false,false,false⟩:Row))) (some k')) k' (some (⟨r.v,p.ty,r.cells++cs,false,true,false⟩:Row)) y=some ⟨O.v,O.ty,[],false,false,false⟩:=by
  rw[av _ _ hyk];simp only[forget];rw[av _ _ hyk,aq]
 have aG:bI blk k' (some g) y=some gy:=by rw[av _ _ hyk,Y]
 have aH:gy.2<(ya.setIfInBounds gy.2 nu).size:=by simpa using y2
 have hB:=hA.jC (r0:=⟨O.v,O.ty,[.ph k' p.k (n+1)],false,false,true⟩) (w':=w') a1 rfl rfl rfl rfl rfl (agC _) (fun b _ _=>rfl) (by
  rw[aG];refine⟨rfl,.inr ⟨fun d hd=>by simp only[agZ]at hd;subst hd;rfl,_,q2,by simp only[List.length_singleton];omega,fun j d X =>?_⟩⟩;cases j with
  | zero=>simp only[List.getElem?_cons_zero,agL]at X;subst X;trivial
  | succ j=>simp at X) (fun h=>by cases h) (fun _ g' aI j x' s' n' hc=>by
  rw[aG]at aI;cases aI;cases j with
  | succ j=>simp at hc
  | zero =>
  simp only[List.getElem?_cons_zero,agL,D.ph.injEq]at hc;obtain⟨rfl,rfl,rfl⟩:=hc;rw[ahb];refine⟨⟨az,.inl ay⟩,nu,?_,fun r' _ =>.inl ⟨g,c,arr.size,p.ty,aq _ _ _,aV.symm,q6,q4,q5,by simp[World.shape?,q3]⟩⟩;rw[aT q2 aH];simp[agH,y2])
 have heq:aO h [(k',some (⟨r.v,p.ty,r.cells++cs,false,true,false⟩:Row)),(y,some ⟨O.v,O.ty,[.ph k' p.k (n+1)],false,false,true⟩)]=bI (bI (forget (bI h y (some (⟨O.v,O.ty,[],false,false,false⟩:Row))) (some k')) k' (some (⟨r.v,p.ty,r.cells++cs,false,true,false⟩:Row))) y (some ⟨O.v,O.ty,[.ph k' p.k (n+1)],false,false,true⟩):=by
  funext z;simp only[aO,forget,bI]
  by_cases aa:z=y
  ·rw[if_pos aa,if_pos aa]
  ·rw[if_neg aa,if_neg aa]
   by_cases ab:z=k'
   ·rw[if_pos ab,if_pos ab]
   ·rw[if_neg ab,if_neg ab,if_neg ab,if_neg aa]
 show Inv _ _ _ _ _ _ _ (aO h _) _ _;rw[heq];exact hB.weaken fun _ _ h =>.inl h
theorem Va (hΓ:bH P Γ) (hI:Inv N M L w0 blk V t h a w) {c:Call} {f:Operand} {E:bF} (ho:o.op=.call c) (hc:c.callee=.value f) (hV:∀d,o.dst=some d->iR N V d e) (hP:∀x v,V x v->x<N∨2*PK<=x) (hE:ij Γ h e o.dst (ev t f) (c.args.toList.map (ev t))=some E):dY P o a w (bd N M L w0 V t h a e o.dst E):=by
 have hf:=hI.ev f;have O:∀(j:Nat) d,(c.args.toList.map (ev t))[j]? = some d->RT w (Own M h blk) h blk V d ((c.args.map a.eval).getD j undef):=by
  intro j d Z;rw[agz]at Z;cases hx:c.args.toList[j]? with
  | none=>simp[hx]at Z
  | some x =>
   simp only[hx,Option.map_some,agL]at Z;subst Z;have:(c.args.map a.eval).getD j undef=a.eval x:=by
    have ak:c.args[j]? = some x:=by simpa using hx
    simp[ak]
   rw[this];exact hI.ev x
 have U:(c.args.map a.eval).size=(c.args.toList.map (ev t)).length:=by simp
 have ah:∀ {g:Nat} {fs caps:Array Value},a.eval f=.func (.func g) fs caps->dX P g->(execOp a.eval o).run P w=.ok (.enter g (fs++c.args.map a.eval++caps)) w:=by
  intro g fs caps Y ⟨fn,al,ag,aa⟩;have hn:¬fn.name = "runtime.NumGoroutine":=by simpa using ag
  have hb:¬fn.body=none:=by
   intro h0;rw[h0]at aa;cases aa
  simp[execOp,ho,resolve,hc,Y,Deferred.ofValue,invoke,callFunc,program,Sem.run,al,hn,hb]
 generalize c.args.toList.map (ev t)=ds at *;generalize c.args.map a.eval=vs at *;generalize ev t f=q at *;have done:∀ {g:Nat} {fs caps:Array Value} {args:Array Value},a.eval f=.func (.func g) fs caps->args=fs++vs++caps->(dX P g∧Calls P g args w fun e' w'=>∃v,e'=.returned v∧bd N M L w0 V t h a e o.dst E v w')->dY P o a w (bd N M L w0 V t h a e o.dst E) :=
  fun Y O ⟨h1,h2⟩ =>.inr (.inr ⟨_,_,O ▸ ah Y h1,h2⟩)
 cases q with
 | fn g =>
  have Y:a.eval f=.func (.func g) #[] #[]:=by
   have an:RP w (Own M h blk) (.fn g) (a.eval f):=hf;generalize a.eval f=u at *;cases an;rfl
  simp only[ij]at hE;split at hE
  ·rename_i p hp;exact done Y (by simp) (Xi (hΓ.ins g p hp) hI hE hV U O)
  split at hE
  ·rename_i p hp;exact done Y (by simp) (Xg (hΓ.grw g p hp) hI hP hE U O)
  split at hE
  ·split at hE
   ·rename_i x v s c0 n rest;have X:(vs.extract 1 vs.size).size=rest.length:=by simp at U ⊢;omega
    have ab:vs = #[vs.getD 0 undef]++vs.extract 1 vs.size:=by
     have:0<vs.size:=by simp at U;omega
     apply Array.ext
     ·simp;omega
     ·intro i h1 h2;cases i with
      | zero=>simp[ahP this]
      | succ i=>simp[ahT];congr 1;omega
    have h0:=O 0 _ rfl;refine done Y (by simpa using ab.symm) (CF hΓ hI hE hV h0.1 (fun r hl=>(hI.acb hl).1 _ _ _ h0) X (fun j d Z =>?_));have:=O (j+1) d (by simpa using Z);have e1:(vs.extract 1 vs.size).getD j undef=vs.getD (j+1) undef:=by
     simp only[agH];congr 1;rw[ahV];split
     ·congr 1;omega
     ·rename_i hh;rw[ahW (by omega)]
    rw[e1];exact this
   ·rename_i x v c0 rest;have X:(vs.extract 1 vs.size).size=rest.length:=by simp at U ⊢;omega
    have ab:vs = #[vs.getD 0 undef]++vs.extract 1 vs.size:=by
     have:0<vs.size:=by simp at U;omega
     apply Array.ext
     ·simp;omega
     ·intro i h1 h2;cases i with
      | zero=>simp[ahP this]
      | succ i=>simp[ahT];congr 1;omega
    have h0:=O 0 _ rfl;refine done Y (by simpa using ab.symm) (CF hΓ hI hE hV h0.1 (fun r hl=>(hI.acb hl).2 _ h0) X (fun j d Z =>?_));have:=O (j+1) d (by simpa using Z);have e1:(vs.extract 1 vs.size).getD j undef=vs.getD (j+1) undef:=by
     simp only[agH];congr 1;rw[ahV];split
     ·congr 1;omega
     ·rename_i hh;rw[ahW (by omega)]
    rw[e1];exact this
   ·rename_i x v rest;have X:(vs.extract 1 vs.size).size=rest.length:=by simp at U ⊢;omega
    have ab:vs = #[vs.getD 0 undef]++vs.extract 1 vs.size:=by
     have:0<vs.size:=by simp at U;omega
     apply Array.ext
     ·simp;omega
     ·intro i h1 h2;cases i with
      | zero=>simp[ahP this]
      | succ i=>simp[ahT];congr 1;omega
    have h0:=O 0 _ rfl;refine done Y (by simpa using ab.symm) (CF hΓ hI hE hV h0.1 (fun r hl=>hI.Yp hl h0) X (fun j d Z =>?_));have:=O (j+1) d (by simpa using Z);have e1:(vs.extract 1 vs.size).getD j undef=vs.getD (j+1) undef:=by
     simp only[agH];congr 1;rw[ahV];split
     ·congr 1;omega
     ·rename_i hh;rw[ahW (by omega)]
    rw[e1];exact this
   ·cases hE
  ·exact done Y (by simp) (Lm hΓ hI hE hV U O)
 | clo g kk caps =>
  obtain⟨us,k1,k2,k3⟩:=hf;simp only[ij]at hE
  by_cases ai:caps.all jl=true
  rotate_left
  ·rw[if_neg ai]at hE;cases hE
  rw[if_pos ai]at hE;have ao:((us.take kk).toArray++vs++(us.drop kk).toArray).toList=us.take kk++(vs.toList++us.drop kk):=by simp
  have aq:(us.take kk).length=(caps.take kk).length:=by rw[agV,agV,k2]
  have X:vs.toList.length=ds.length:=by simpa using U
  refine done k1 rfl (Lm hΓ hI hE hV (by simp[U,k2]) (fun j d Z =>?_));have aj:((us.take kk).toArray++vs++(us.drop kk).toArray).getD j undef=(us.take kk++(vs.toList++us.drop kk)).getD j undef:=by
   rw[<- ao,agH,ahf,ahu]
  rw[aj,ahf];rw[ahj]at Z ⊢;rw[aq];split at Z
  ·rename_i ae;rw[if_pos ae];have ar:j<kk:=by rw[agV]at ae;omega
   rw[agS,if_pos ar]at Z ⊢;have:=Ck (k3 _ d Z)
   rwa [ahf]at this
  ·rename_i ae;rw[if_neg ae];rw[ahj]at Z ⊢;rw[X];split at Z
   ·rename_i ad;rw[if_pos ad];have:=O _ d Z;rw[agH]at this;simpa using this
   ·rename_i ad;rw[if_neg ad];rw[agT]at Z ⊢;have:=Ck (k3 _ d Z)
    rwa [ahf]at this
 | _=>simp[ij]at hE
theorem RT.afP {d:D} {n:Nat} {u:Value} (hI:Inv N M L w0 blk V t h a w) (O:xY d=some n) (Y:alive h d=true) (X:RT w (Own M h blk) h blk V d u) :
  (∀s,d=.str s->u=.string s∧s.size=n)∧((∀s,d ≠ .str s)->∃A c,u=.slice A n c):=by
 cases d with
 | str s =>
  simp only[xY,agL]at O;refine⟨fun Z hs =>?_,fun hn=>absurd rfl (hn s)⟩;cases hs;exact⟨Cm X,O⟩
 | sl nl tight m xs =>
  simp only[xY,agL]at O;subst O;refine⟨fun Z hs=>(by cases hs),fun _ =>?_⟩;have U:RP w (Own M h blk) (.sl nl tight m xs) u:=X;cases U with
  | sl A c nl tight n xs us h1 h2 h3 h4 h5 h6 h7 h8=>exact⟨A,c,rfl⟩
 | buf x v s o m =>
  simp only[xY,agL]at O;subst O;refine⟨fun Z hs=>(by cases hs),fun _ =>?_⟩;simp only[alive,Option.isSome_iff_exists]at Y;obtain⟨r,U⟩:=Y;obtain⟨hx,hv⟩:=pq U;rcases X.2 r hx hv with⟨g,o',c,N',t',_,g1,_⟩|⟨_,rfl,A,g1⟩
  ·exact⟨_,c,g1⟩
  ·exact⟨A,0,g1⟩
 | _=>simp[xY]at O
theorem O7 (k:IntKind):∀(ds:List D) (us:List Value) (x z:Int),wY (fun x y=>if y>x then y else x) k x ds=some z->us.length=ds.length->(∀j d,ds[j]? = some d->RT w (Own M h blk) h blk V d (us.getD j undef)) ->
  (us.foldlM Builtin.max2 (.int k x)).run P w=.ok (.int k z) w
 | [],us,x,z,hm,U,_=>by
  have:us=[]:=ahX U;subst this;simp only[wY,agL]at hm;subst hm;rfl
 | d::ds,us,x,z,hm,U,X=>by
  cases us with
  | nil=>simp at U
  | cons u us =>
   have hu:=X 0 d rfl;cases d with
   | int k' y =>
    simp only[wY]at hm;split at hm
    ·have O:=ln hu;simp only[ahJ]at O;subst O;have Y:=O7 k ds us _ z hm (by simpa using U) (fun j d Z=>by simpa using X (j+1) d (by simpa using Z));simp only[List.foldlM_cons,ag9,Builtin.max2,Sem.run_pure,Result.andThen_ok];exact Y
    ·cases hm
   | _=>simp[wY]at hm
theorem O8 (k:IntKind):∀(ds:List D) (us:List Value) (x z:Int),wY (fun x y=>if y<x then y else x) k x ds=some z->us.length=ds.length->(∀j d,ds[j]? = some d->RT w (Own M h blk) h blk V d (us.getD j undef)) ->
  (us.foldlM Builtin.min2 (.int k x)).run P w=.ok (.int k z) w
 | [],us,x,z,hm,U,_=>by
  have:us=[]:=ahX U;subst this;simp only[wY,agL]at hm;subst hm;rfl
 | d::ds,us,x,z,hm,U,X=>by
  cases us with
  | nil=>simp at U
  | cons u us =>
   have hu:=X 0 d rfl;cases d with
   | int k' y =>
    simp only[wY]at hm;split at hm
    ·have O:=ln hu;simp only[ahJ]at O;subst O;have Y:=O8 k ds us _ z hm (by simpa using U) (fun j d Z=>by simpa using X (j+1) d (by simpa using Z));simp only[List.foldlM_cons,ag9,Builtin.min2,Sem.run_pure,Result.andThen_ok];exact Y
    ·cases hm
   | _=>simp[wY]at hm
end
section
variable {P:Program} {T:Nat->Option Ty} {N:Nat} {M:Nat->Prop} {L:jg} {w0:World} {blk:Nat->Option (Nat×Nat)} {V:Nat->Nat->Prop} {t:Nat->D} {h:Nat->Option Row} {a:Act} {w:World} {e:Nat} {o:Oper} {Γ:Env}
theorem Inv.content (hI:Inv N M L w0 blk V t h a w) {d:D} {m s:Nat} {news:List D} {u:Value} (hs:0<s) (X:content h d=some (m,news)) (hl:news.length=m*s) (hr:RT w (Own M h blk) h blk V d u) :
  ∃(A:Option Addr) (c:Nat) (us:List Value),u=.slice A m c∧m<=c∧us.length=news.length∧(∀j x,news[j]? = some x->ba x=true∧RP w (Own M h blk) x (us.getD j undef)) ∧
   (∀ad,A=some ad->∀j v,us[j]? = some v->w.cell? (ad.add j)=some v)∧(A=none->m=0∧c=0):=by
 cases d with
 | sl nl tight n xs =>
  simp only[Am.content,agL,Prod.mk.injEq]at X;obtain⟨rfl,rfl⟩:=X;have aa:RP w (Own M h blk) (.sl nl tight n xs) u:=hr;cases aa with
  | sl A c nl tight n xs us h1 h2 h3 h4 h5 h6 h7 h8 =>
   refine⟨A,c,(List.range xs.length).map us,rfl,h1,by simp,fun j x U=>⟨h8 x (ag4 U),?_⟩,fun ad Y j v U =>?_,h4⟩
   ·have O:=(ag5.1 U).1;have:((List.range xs.length).map us).getD j undef=us j:=by simp[List.getD,O]
    rw[this];exact h7 j x U
   ·obtain⟨O,he⟩:=ag5.1 U;simp only[ag6,ag7]at O;simp only[List.getElem_map,ag8]at he;have ab:xs≠[]:=by rintro rfl;simp at O
    obtain⟨b,o,Z,_,_,g3⟩:=h6 ab;rw[Y]at Z;simp only[agL]at Z;subst Z;rw[oQ,<- he];exact g3 j O
 | buf x v z q n =>
  simp only[Am.content]at X;split at X
  ·rename_i r ae;split at X
   ·rename_i hle;simp only[agL,Prod.mk.injEq]at X;obtain⟨rfl,rfl⟩:=X;rcases hI.xr ae hr with⟨g,o',c,cs,g0,g1,g2,g3,g4,g5,g7,g8⟩|⟨g0,rfl,g2,A,g3⟩
    ·have hlen:((r.cells.drop q).take (n*z)).length=n*z:=by simp;omega
     rw[hlen]at hl;refine⟨_,c,(List.range (n*z)).map (fun j=>cs.getD (g.2+(q+j)) undef),g1,g2,by simp;omega,fun j x U =>?_,fun ad Y j v U =>?_,fun Y=>by cases Y⟩
     ·rw[cF]at U;split at U
      ·rename_i ag;have:((List.range (n*z)).map (fun j=>cs.getD (g.2+(q+j)) undef)).getD j undef=cs.getD (g.2+(q+j)) undef:=by simp[List.getD,ag]
       rw[this];exact g8 _ _ U
      ·cases U
     ·obtain⟨O,he⟩:=ag5.1 U;simp only[ag6,ag7]at O;simp only[List.getElem_map,ag8]at he;simp only[agL]at Y;subst Y;have hn:0<n:=by
       rcases agU n with h0|h0
       ·subst h0;simp at O
       ·exact h0
      have:=(g5 (.inl (by omega))).1;subst this;rw[oQ,<- he,agX];exact aT g4 (by omega)
    ·refine⟨A,0,[],g3,agC _,by simp,fun j x U=>by simp at U,fun ad Y j v U=>by simp at U,fun _=>⟨rfl,rfl⟩⟩
   ·cases X
  ·cases X
 | _=>simp[Am.content]at X
theorem appended {M':Nat->Prop} {olds news:List D} {xs us:List Value} {cur:Array Value} {b:Nat} (X:xs.length=olds.length) (aa:us.length=news.length) (O:(cur.toList.drop b).take (olds.length+news.length)=xs++us)
  (h1:∀j x,olds[j]? = some x->ba x=true∧RP w M' x (xs.getD j undef)) (h2:∀j x,news[j]? = some x->ba x=true∧RP w M' x (us.getD j undef)) (j:Nat) (x:D) (U:(olds++news)[j]? = some x) :
  ba x=true∧RP w M' x (cur.getD (b+j) undef):=by
 have Y:j<olds.length+news.length:=by
  have:=(ag5.1 U).1;simpa using this
 have hg:cur.getD (b+j) undef=(xs++us).getD j undef:=by
  rw[<- O];simp only[ahf,agS,if_pos Y,agT];simp
 rw[hg]
 by_cases Z:j<olds.length
 ·rw[ahg Z]at U;have:(xs++us).getD j undef=xs.getD j undef:=by
   simp only[ahf];rw[ahg (by omega)]
  rw[this];exact h1 j x U
 ·rw[ahh (by omega)]at U;have:(xs++us).getD j undef=us.getD (j-olds.length) undef:=by
   simp only[ahf];rw[ahh (by omega),X]
  rw[this];exact h2 _ x U
theorem YQ {M':Nat->Prop} {news:List D} {us:List Value} (X:us.length=news.length) (h2:∀j x,news[j]? = some x->ba x=true∧RP w M' x (us.getD j undef)):∀u∈us,u.oneCell'=true:=by
 intro u hu;obtain⟨j,O⟩:=agY hu;have Y:=(ag5.1 O).1;obtain⟨Z,U⟩:=h2 j _ (agP (by omega));have:us.getD j undef=u:=by simp[List.getD,O]
 rw[this]at U;exact U.qe Z
theorem nG (t ty el:Nat) {τ:Ty} (U:P.underlying t=some (.slice el)) {φ:Ty} (X:eP P el φ) (A B:Option Addr) (n c k:Nat) (Y:n<=c):(Builtin.append_ #[t,t] ty #[.slice A n c,.slice B 0 k]).run P w=.ok (.slice A n c) w:=by
 have O:(Builtin.firstCells φ.size 0 (.slice B 0 k)).run P w=.ok #[] w:=by
  cases B with
  | none=>simp[Builtin.firstCells]
  | some b=>simp[Builtin.firstCells,loadCells,loadCellsFrom]
 cases A with
 | none=>simp[Builtin.append_,run_underlying U,run_sizeOf X,Builtin.lenOf,Y,O]
 | some b=>simp[Builtin.append_,run_underlying U,run_sizeOf X,Builtin.lenOf,Y,O,storeCells]
theorem Fb (t ty el:Nat) {φ:Ty} (hd:P.underlying t=some (.slice el)) (hφ:eP P el φ) (ak:0<φ.size) (ae:φ.zero.length=φ.size) (A:Option Addr) (n cap:Nat) (xs:List Value) (X:xs.length=n*φ.size)
  (ag:∀ad,A=some ad->∀j u,xs[j]? = some u->w.cell? (ad.add j)=some u) (hA:A=none->n=0∧cap=0) (b:Addr) (m c:Nat) (us:List Value) (O:us.length=m*φ.size)
  (aa:∀j u,us[j]? = some u->w.cell? (b.add j)=some u) (hg:cap<n+m) (ab:n+m<=maxLen) (hb:(n+m)*φ.bytes<=140737488355328) :
  ∃k vs,(Builtin.append_ #[t,t] ty #[.slice A n cap,.slice (some b) m c]).run P w=.ok (.slice (some ⟨w.heap.size,0,none⟩) (n+m) k) (w.drew.alloc (.cells vs el))∧n+m<=k∧k<=maxLen∧k*φ.size=vs.size∧vs.toList.take ((n+m)*φ.size)=xs++us:=by
 obtain⟨d',i,z,i1,i2,i3,i4,i5,i6,i7⟩:=hφ.get;have ah:z.cells.size=φ.size:=by rw[i7];simpa using ae
 have U:((n+m:Nat):Int)<=9223372036854775807:=by simp only[maxLen]at ab;omega
 have hlen:(xs++us).length=(n+m)*φ.size:=by rw[ahO,X,O,ahS]
 have Y:=grownCap_ge w (n+m) cap el;have Z:grownCap w (n+m) cap el<=maxLen:=grownCap_le_maxLen w (n+m) cap el ab;have fin:∀vs:Array Value,vs=xs.toArray++us.toArray++Builtin.zeroCells z.cells (grownCap w (n+m) cap el-(n+m))->grownCap w (n+m) cap el*φ.size=vs.size∧vs.toList.take ((n+m)*φ.size)=xs++us:=by
  intro vs ai;subst ai;refine⟨?_,?_⟩
  ·simp only[Array.size_append,ahY,size_zeroCells,ah,X,O,<- ahS];congr 1;omega
  ·simp only[ahZ,ah0];rw[<- ah0,<- hlen];exact List.take_left
 cases A with
 | some ad =>
  have hr:=run_append_grow (P:=P) w t ty el i z hd i3 i6 ad n cap xs (by rw[i4];exact X) (ag ad rfl) b m c us (by rw[i4];exact O) aa hg U (growslice_fits hg (by rw[i5];exact hb));obtain⟨f1,f2⟩:=fin _ rfl;exact⟨_,_,hr,Y,Z,f1,f2⟩
 | none =>
  obtain⟨rfl,rfl⟩:=hA rfl;have aj:xs=[]:=ahX (by omega);subst aj;have hr:=run_append_nil (P:=P) w t ty el i z hd i3 i6 b m c us (by rw[i4];exact O) aa (by omega) (by simpa using U) (by rw[i5];simp only[ahr]at hb;omega);simp only[ahr]at Y Z fin ⊢;obtain⟨f1,f2⟩:=fin _ rfl;refine⟨_,_,hr,Y,Z,?_,?_⟩
  ·simpa using f1
  ·simpa using f2
theorem F5 (t ty el:Nat) {φ:Ty} (hd:P.underlying t=some (.slice el)) (hφ:eP P el φ) (g q n cap:Nat) (cur:Array Value) (hg:w.heap[g]? = some (.cells cur el (0,0))) (b:Addr) (m c:Nat) (us:List Value) (Y:us.length=m*φ.size)
  (Z:∀j u,us[j]? = some u->w.cell? (b.add j)=some u) (h1:∀u∈us,u.oneCell'=true) (O:n+m<=cap) (U:q+n*φ.size+us.length<=cur.size) :
  (Builtin.append_ #[t,t] ty #[.slice (some ⟨g,q,none⟩) n cap,.slice (some b) m c]).run P w =
   .ok (.slice (some ⟨g,q,none⟩) (n+m) cap) (w.setRow g (cur.toList.take (q+n*φ.size)++us++cur.toList.drop (q+n*φ.size+us.length)).toArray):=by
 obtain⟨d',i,z,i1,i2,i3,i4,i5,i6,i7⟩:=hφ.get;have hf:=run_firstCells_some (P:=P) w i.size m b m c us (by rw[i4];exact Y) Z;have X:=run_storeCells_at P g (q+n*i.size) el us 0 cur w hg (by rw[i4];simpa using U) h1;simp only[Nat.add_zero]at X;rw[<- i4];simp[Builtin.append_,run_underlying hd,sizeOf,typeInfo,i3,Builtin.lenOf,O,hf,oQ,X]
theorem yU {α:Type} (l us rest:List α) (b k:Nat) (h:b+k<=l.length):((l.take (b+k)++us++rest).drop b).take (k+us.length)=(l.drop b).take k++us:=by
 have h1:((l.drop b).take k).length=k:=by simp;omega
 rw[ah0,ah1 (by simp;omega),List.drop_take,ah2,ah3,h1,ah2,ah4 (agC _),ah5 (l:=us) (agC _),ah5 (by rw[h1];omega)]
theorem Mf (hT:ig P T) (hI:Inv N M L w0 blk V t h a w) {c:Call} {s x:Operand} {ty d:Nat} {τ:Ty} {E:bF} (ho:o.op=.call c) (hc:c.callee=.builtin .append) (aC:c.args = #[s,x]) (aP:c.argTypes = #[ty,ty]) (hd:o.dst=some d)
  (hV:iR N V d e) (hτ:T ty=some τ) (X:iW T τ h e d (ev t s) (ev t x)=some E):dY P o a w (bd N M L w0 V t h a e o.dst E):=by
 have aj:=hI.ev s;have aD:=hI.ev x;generalize ev t s=qs at *;generalize ev t x=qx at *;obtain⟨dd,an,aQ⟩:=under hT hτ;have Y:∀v w',(Builtin.append_ #[ty,ty] o.type #[a.eval s,a.eval x]).run P w=.ok v w'->(execOp a.eval o).run P w=.ok (.value v) w':=by
  intro v w' hr;simp[execOp,ho,resolve,hc,aC,aP,invoke,builtin,hr]
 unfold iW at X;split at X
 ·rename_i el aX;rw[aX]at aQ;have:=fM aQ;subst this;split at X
  ·rename_i φ m news hφ ag;split at X
   ·rename_i U;have grow:∀(old:Option Nat) (A:Option Addr) (n cap:Nat) (xs:List Value) (olds:List D),(∀y,old=some y->∃r,h y=some r∧r.fz=false)->a.eval s=.slice A n cap->n<=cap->(A=none->n=0∧cap=0)->xs.length=n*φ.size->olds.length=xs.length ->
      (∀ad,A=some ad->∀j u,xs[j]? = some u->w.cell? (ad.add j)=some u)->(∀(j:Nat) x,olds[j]? = some x->ba x=true∧RP w (Own M h blk) x (xs.getD j undef))->cap<n+m->n+m<=maxLen->(n+m)*φ.bytes<=140737488355328->news.length=m*φ.size ->
      E=⟨.buf d e φ.size 0 (n+m),(match old with|some y=>[(y,none)]|none=>[])++[(d,some ⟨e,el,olds++news,false,true,false⟩)]⟩->dY P o a w (bd N M L w0 V t h a e o.dst E):=by
     intro old A n cap xs olds hold hs bm hA aE Z aY holds aZ a1 a6 aF a7;obtain⟨B,cb,us,ak,aA,ao,aq,av,aw⟩:=hI.content U.1 ag aF aD;cases B with
     | none =>
      have:=(aw rfl).1;subst this;omega
     | some b =>
      obtain⟨k,vs,aa,g1,g2,g3,g4⟩:=Fb (P:=P) (w:=w) ty o.type el an (hT el φ hφ) U.1 U.2 A n cap xs aE aY hA b m cb us (by omega) (av b rfl) aZ a1 a6;have hb:Below w.heap.size w (w.drew.alloc (.cells vs el)):=((Below.refl _ _).drew).alloc (by simp) _;refine aL (Y _ _ (by rw[hs,ak];exact aa)) ?_;have:=hI.fresh (old:=old) (dst:=o.dst) (e:=e) (d:=d) (ty:=el) (s:=φ.size) (n:=n+m) (cells:=olds++news) (w':=w.drew.alloc (.cells vs el)) (v := .slice (some ⟨w.heap.size,0,none⟩) (n+m) k) hd hV (ey.yj hb) hold
       (.inl ⟨(w.heap.size,0),k,vs,rfl,.inl (agC _),by simpa using heap_alloc_new w.drew (.cells vs el),g1,g2,by simpa using g3,?_,fun j y hj =>?_⟩)
      ·subst a7;unfold bd;cases old with
       | none=>exact this
       | some y=>exact this
      ·simp only[ahr,ahO,Z,aE,aF,<- ahS];rw[<- g3];exact ahp _ g1
      ·have al:=appended (b:=0) (M':=Own M h blk) (w:=w) (olds:=olds) (news:=news) (xs:=xs) (us:=us) (cur:=vs) Z.symm ao (by rw[ah6,Z,aE,aF,<- ahS];exact g4) holds aq j y hj;simp only[ahr]at al ⊢;refine⟨al.1,al.2.keep fun b k1 k2=>⟨agF k1 hb.size,fun aG =>?_,hb.block b k1⟩⟩;rcases aG with aG|rfl
       ·exact k2 (w9 aG)
       ·omega
    split at X
    ·rename_i nl tight n xs;split at X
     ·rename_i ah;obtain⟨k1,k2,k3,k4,k5⟩:=ah;split at X
      ·rename_i hm;subst hm;simp only[agL]at X;subst X;obtain⟨A,cx,us,ak,aA,ao,aq,av,aw⟩:=hI.content U.1 ag k5 aD;obtain⟨B,cb,ax,O,ab,_⟩:=hI.content (d := .sl nl tight n xs) U.1 rfl k4 aj;refine aL (Y _ _ (by rw[O,ak];exact nG (τ:=τ) ty o.type el an (hT el φ hφ) B A n cb cx ab)) (bd.dO hI ?_);rw[<- O];exact aj
      ·rename_i hm;simp only[agL]at X;obtain⟨B,cb,ax,O,ab,a8,aH,aI,aJ⟩:=hI.content (d := .sl nl tight n xs) U.1 rfl k4 aj;have aR:cb=n:=by
        have aS:RP w (Own M h blk) (.sl nl tight n xs) (a.eval s):=aj;generalize a.eval s=u at *;cases aS with
        | sl A' c' nl tight n xs bn h1 h2 h3 h4 h5 h6 h7 h8 =>
         simp only[Value.slice.injEq]at O;obtain⟨_,_,rfl⟩:=O;exact h5 k1
       subst aR;exact grow none B cb cb ax xs (fun y hy=>by cases hy) O ab (fun h=>(aJ h)) (by omega) (by omega) aI aH (by omega) k2 k3 k5 X.symm
     ·cases X
    ·rename_i y v zz q n;split at X
     ·rename_i r aK;split at X
      ·rename_i ah;obtain⟨k1,k2,k3,k4,k5,k6,k7⟩:=ah;subst k1;simp only[agL]at X;obtain⟨ay,bo⟩:=cq aK;have az:Am.content h (.buf y v φ.size q n)=some (n,(r.cells.drop q).take (n*φ.size)):=by simp only[Am.content,aK,if_pos k4]
       have Z:((r.cells.drop q).take (n*φ.size)).length=n*φ.size:=by simp;omega
       obtain⟨B,cb,ax,O,ab,a8,aH,aI,aJ⟩:=hI.content U.1 az Z aj
       by_cases ai:n+m<=cb
       ·obtain⟨A,cx,us,ak,aA,ao,aq,av,aw⟩:=hI.content U.1 ag k7 aD;have empty:cb=0->dY P o a w (bd N M L w0 V t h a e o.dst E):=by
         intro h0;have bb:n=0:=by omega
         have bc:m=0:=by omega
         subst bb bc h0;have aM:news=[]:=ahX (by omega);subst X aM;refine aL (Y _ _ (by rw[O,ak];exact nG (τ:=τ) ty o.type el an (hT el φ hφ) B A 0 0 cx (agC _))) ?_;have:=hI.fresh (old:=some y) (dst:=o.dst) (e:=e) (d:=d) (ty:=el) (s:=φ.size) (n:=0) (cells:=[]) (w':=w) (v := .slice B 0 0) hd hV (ey.refl _ _) (fun y' ar=>by cases ar;exact⟨r,ay,k3⟩) (.inr ⟨rfl,rfl,B,rfl⟩);unfold bd;have e0:(r.cells.drop q).take (0*φ.size)++[]=[]:=by simp
         rw[e0];exact this
        rcases hI.xr aK aj with⟨g,o',ae,cs,g0,g1,g2,g3,g4,g5,g7,g8⟩|⟨g0,g1,g2,A',g3⟩
        ·have bf:ae=cb:=by rw[g1]at O;simp at O;exact O.2
         subst bf
         by_cases bg:0<ae∨q=0
         ·obtain⟨bh,bj⟩:=g5 bg;subst bh;have aN:(n+m)*φ.size<=ae*φ.size:=ahp _ ai;rw[ahS]at aN;have aT:g.2+q+n*φ.size+us.length<=cs.size:=by omega
          have aU:((cs.toList.drop (g.2+q)).take (n*φ.size)).length=n*φ.size:=by simp;omega
          have aa:∃cur,(Builtin.append_ #[ty,ty] o.type #[a.eval s,a.eval x]).run P w=.ok (.slice (some ⟨g.1,g.2+q,none⟩) (n+m) ae) (w.setRow g.1 cur)∧cur.size=cs.size∧(cur.toList.drop (g.2+q)).take (n*φ.size+m*φ.size)=(cs.toList.drop (g.2+q)).take (n*φ.size)++us:=by
           rw[ak,g1];cases A with
           | some ad =>
            refine⟨_,F5 (P:=P) ty o.type el an (hT el φ hφ) g.1 (g.2+q) n ae cs (by rw[<- k2];exact g4) ad m cx us (by omega) (av ad rfl) (YQ ao aq) ai aT,by simp;omega,?_⟩;have:=yU cs.toList us (cs.toList.drop (g.2+q+n*φ.size+us.length)) (g.2+q) (n*φ.size) (by simp;omega);have aV:us.length=m*φ.size:=by omega
            rw[aV]at this;rw[aV];exact this
           | none =>
            obtain⟨rfl,rfl⟩:=aw rfl;have bk:us=[]:=ahX (by omega);subst bk;refine⟨cs,?_,rfl,by simp⟩;rw[setRow_self w g.1 cs r.ty (0,0) g4];exact nG (τ:=τ) ty o.type el an (hT el φ hφ) _ _ n ae 0 g2
          obtain⟨cur,aa,aW,aO⟩:=aa;subst X;have aB:Own M h blk g.1 := .inr ⟨y,r,g,ay,k3,g0,rfl⟩;have hheap:∀b,b≠g.1->(w.setRow g.1 cur).heap[b]? = w.heap[b]?:=by
           intro b hb;simp only[World.setRow,agM];rw[if_neg (Ne.symm hb)]
          have au:(w.setRow g.1 cur).heap.size=w.heap.size:=by simp[World.setRow]
          refine aL (Y _ _ aa) ?_;have:=hI.fresh (old:=some y) (dst:=o.dst) (e:=e) (d:=d) (ty:=el) (s:=φ.size) (n:=n+m) (cells:=(r.cells.drop q).take (n*φ.size)++news) (w':=w.setRow g.1 cur) (v := .slice (some ⟨g.1,g.2+q,none⟩) (n+m) ae) hd hV
           ⟨rfl,rfl,rfl,by rw[au];exact agC _,fun b _ hb=>hheap b (fun he=>hb ⟨y,g,rfl,g0,he⟩)⟩ (fun y' ar=>by cases ar;exact⟨r,ay,k3⟩)
           (.inl ⟨(g.1,g.2+q),ae,cur,rfl,.inr ⟨y,g,rfl,g0,rfl⟩,by rw[<- k2];exact setRow_heap w g.1 cs cur r.ty (0,0) g4,ai,g3,by rw[aW];exact bj,by simp only[ahO,Z];omega,fun j z hj =>?_⟩)
          ·unfold bd;exact this
          ·have al:=appended (b:=g.2+q) (M':=Own M h blk) (w:=w) (olds:=(r.cells.drop q).take (n*φ.size)) (news:=news) (xs:=(cs.toList.drop (g.2+q)).take (n*φ.size)) (us:=us) (cur:=cur) (by rw[Z,aU]) ao (by rw[Z,k7];exact aO)
            (fun j z hj=>by
             rw[cF]at hj;split at hj
             ·rename_i bl;have:=g8 _ _ hj;have he:((cs.toList.drop (g.2+q)).take (n*φ.size)).getD j undef=cs.getD (g.2+(q+j)) undef:=by
               simp only[ahf,cF,if_pos bl,agX];simp
              rw[he];exact this
             ·cases hj) aq j z hj
           refine⟨al.1,al.2.keep fun b q1 q2=>⟨by rw[au];exact q1,?_,hheap b (fun he=>q2 (he ▸ aB))⟩⟩;rintro (hb|rfl)
           ·exact q2 (w9 hb)
           ·exact q2 aB
         ·exact empty (by omega)
        ·rw[g3]at O;simp only[Value.slice.injEq]at O;exact empty (by omega)
       ·exact grow (some y) B n cb ax _ (fun y' ar=>by cases ar;exact⟨r,ay,k3⟩) O ab (fun h=>(aJ h)) (by omega) (by omega) aI aH (by omega) k5 k6 k7 X.symm
      ·cases X
     ·cases X
    ·cases X
   ·cases X
  ·cases X
 ·cases X
end
section
variable {P:Program} {T:Nat->Option Ty} {N:Nat} {M:Nat->Prop} {L:jg} {w0:World} {blk:Nat->Option (Nat×Nat)} {V:Nat->Nat->Prop} {t:Nat->D} {h:Nat->Option Row} {a:Act} {w:World} {e:Nat} {o:Oper} {Γ:Env}
theorem Pc {s:Ds} {x:D} (hk:kindOk s x=true):s.oD=false∧kh s=true:=by
 cases s<;>cases x<;>simp[kindOk]at hk<;>exact⟨rfl,rfl⟩
theorem xg (hT:ig P T) (n:Nat) {M':Nat->Prop} {us vs:List Value} : ∀(F:List Field) (o:Nat) (xs O:List D) (b:Bool),(∀f∈F,f.name ≠ "_")->fi T o (F.map fun f=>(f.type,f.offset)) xs=true->Tf xs O=some b ->
  (∀j x,xs[j]? = some x->RP w M' x (us.getD (o+j) undef)∧o+j<us.length)->(∀j y,O[j]? = some y->RP w M' y (vs.getD (o+j) undef)∧o+j<vs.length) ->
  (forIn F ((none,()):Option Bool×Unit) fun f __s =>
   if f.name ≠ "_" then do
    let __do_lift <- part f.type us.toArray f.offset
    let __do_lift_1 <- part f.type vs.toArray f.offset
    let __do_lift <- Op.equalIn (n+1) f.type __do_lift __do_lift_1
    if (!__do_lift)=true then pure (ForInStep.done (some false,())) else pure (ForInStep.yield (none,()))
   else (pure (ForInStep.yield (none,())):Sem _)).run P w=.ok (if b then (none,()) else (some false,())) w
 | [],o,xs,O,b,hn,U,he,hx,hy=>by
  cases xs with
  | nil =>
   cases O with
   | nil =>
    simp only[Tf,agL]at he;subst he;rfl
   | cons y O=>simp[Tf]at he
  | cons x xs=>simp[fi]at U
 | f::F,o,xs,O,b,hn,U,he,hx,hy=>by
  cases xs with
  | nil=>simp[fi]at U
  | cons x xs =>
   cases O with
   | nil=>simp[Tf]at he
   | cons y O =>
    simp only[agI,fi,ahd,beq_iff_eq]at U;obtain⟨⟨h1,h2⟩,h3⟩:=U;simp only[Tf]at he;split at he
    ·rename_i b1 b2 X ad;simp only[agL]at he;subst he;split at h2
     ·rename_i φ hφ;obtain⟨Y,Z⟩:=hx 0 x rfl;obtain⟨aa,ab⟩:=hy 0 y rfl;rw[ahb]at Y Z aa ab;obtain⟨hA,hS⟩:=Pc h2;have ae:(part f.type us.toArray f.offset).run P w=.ok (us.getD o undef) w:=by
       have hg:us.toArray[f.offset]? = some (us.getD o undef):=by rw[h1];simp[List.getD,agP Z]
       simp only[part,ag9,kZ (hT _ _ hφ),hA,Result.andThen_ok,ahc,if_false,hg];rfl
      have ag:(part f.type vs.toArray f.offset).run P w=.ok (vs.getD o undef) w:=by
       have hg:vs.toArray[f.offset]? = some (vs.getD o undef):=by rw[h1];simp[List.getD,agP ab]
       simp only[part,ag9,kZ (hT _ _ hφ),hA,Result.andThen_ok,ahc,if_false,hg];rfl
      have heq:=(abd hT hφ hS Y aa X n).2 (Vk X h2);have ih:=xg hT n F (o+1) xs O b2 (fun g hg=>hn g (by simp[hg])) h3 ad (fun j z hj=>by have:=hx (j+1) z hj;rwa [show o+(j+1)=o+1+j by omega]at this) (fun j z hj=>by have:=hy (j+1) z hj;rwa [show o+(j+1)=o+1+j by omega]at this);rw[List.forIn_cons];simp only[ag9];rw[if_pos (hn f (by simp))];simp only[ag9,ae,Result.andThen_ok,ag,heq];cases b1 with
      | false=>rfl
      | true =>
       simp only[ah7,ahc,if_false,Sem.run_pure,Result.andThen_ok,ah8];exact ih
     ·cases h2
    ·cases he
theorem run_equalIn_bool (n:Nat) {ty:Nat} (O:P.underlying ty=some .bool) (i j:Bool):(Op.equalIn (n+1) ty (.bool i) (.bool j)).run P w=.ok (i==j) w:=by
 simp[Op.equalIn,run_underlying O]
theorem run_equalIn_struct (n:Nat) {ty:Nat} {F:Array Field} (X:P.underlying ty=some (.struct F)) (Y:P.stoodInHeld ty=false) {us vs:List Value} {b:Bool}
  (O:(forIn F.toList ((none,()):Option Bool×Unit) fun f __s =>
   if f.name ≠ "_" then do
    let __do_lift <- part f.type us.toArray f.offset
    let __do_lift_1 <- part f.type vs.toArray f.offset
    let __do_lift <- Op.equalIn (n+1) f.type __do_lift __do_lift_1
    if (!__do_lift)=true then pure (ForInStep.done (some false,())) else pure (ForInStep.yield (none,()))
   else (pure (ForInStep.yield (none,())):Sem _)).run P w=.ok (if b then (none,()) else (some false,())) w) :
  (Op.equalIn (n+1+1) ty (.agg us.toArray) (.agg vs.toArray)).run P w=.ok b w:=by
 have U:(program:Sem Program).run P w=.ok P w:=rfl;rw[Op.equalIn];simp only[ag9,run_underlying X,Result.andThen_ok,U,Y,ahc,if_false];rw[<- Array.forIn_toList,O];cases b<;>rfl
theorem T9 (hT:ig P T) (hI:Inv N M L w0 blk V t h a w) {ty:Nat} {τ:Ty} (hτ:T ty=some τ) {x y:D} {u v:Value} {b:Bool} (hx:RT w (Own M h blk) h blk V x u) (hy:RT w (Own M h blk) h blk V y v) (O:Wq T τ x y=some b) :
  (Op.equal ty u v).run P w=.ok b w∧(∀(p q:Operand) (op:BinOp),(eqGuard op ty p q u v).run P w=.ok () w)∧(∀op,op=.eql∨op=.neq->binOp op ty u v=(match op with | .eql=>(do pure (.bool (<- Op.equal ty u v)):Sem Value)|_=>do pure (.bool (!(<- Op.equal ty u v))))):=by
 obtain⟨d,hd,hc⟩:=under hT hτ;unfold Wq at O;split at O
 ·rename_i i j;have hu:=uP hx;have hv:=uP hy;subst hu hv;split at O
  ·rename_i X;rw[X]at hc;have:=uY hc;subst this;simp only[agL]at O;subst O;refine⟨run_equalIn_bool 9999 hd i j,fun p q op=>by cases op<;>rfl,fun op Y =>?_⟩;rcases Y with rfl|rfl<;>rfl
  ·cases O
 ·rename_i nl tg n xs;have aa:RP w (Own M h blk) (.sl nl tg n xs) u:=hx;have ab:RP w (Own M h blk) (.sl true true 0 []) v:=hy;split at O
  ·rename_i el X;rw[X]at hc;have:=fM hc;subst this;cases ab with
   | sl A c _ _ _ _ us h1 h2 h3 h4 h5 h6 h7 h8 =>
    obtain⟨rfl,rfl⟩:=(h3 rfl).1 rfl;cases aa with
    | sl B c' _ _ _ _ ai g1 g2 g3 g4 g5 g6 g7 g8 =>
     have hr:=run_equal_slice_nil (P:=P) w ty el B n c' hd;refine⟨?_,fun p q op=>by cases op<;>rfl,fun op Y =>?_⟩
     ·rw[hr];have hB:B.isNone=b:=by
       unfold aa5 at O;split at O
       ·rename_i ah;simp only[agL]at O;subst O;cases B with
        | none=>have:=(g4 rfl).1;omega
        | some _=>rfl
       ·split at O
        ·rename_i ae;simp only[agL]at O;subst O;cases ag:tg with
         | true=>rw[((g3 ae).1 ag).1];rfl
         | false =>
          cases B with
          | none=>exact absurd rfl ((g3 ae).2 ag)
          | some _=>rfl
        ·cases O
      rw[<- hB]
     ·rcases Y with rfl|rfl<;>rfl
  ·cases O
 ·rename_i xs ys;have aa:RP w (Own M h blk) (.agg xs) u:=hx;have ab:RP w (Own M h blk) (.agg ys) v:=hy;split at O
  ·rename_i fs X;rw[X]at hc;obtain⟨F,rfl,hF⟩:=gJ hc;split at O
   ·rename_i U;simp only[ahd]at U;obtain⟨q1,q2,q3⟩:=(hT ty τ hτ).eqs U.1;rw[hd]at q3;simp only at q3;cases aa with
    | agg xs us h1 h2 h3 =>
     cases ab with
     | agg ys vs g1 g2 g3 =>
      have Z:∀f∈F.toList,f.name ≠ "_":=by
       intro f hf;have:=Array.all_eq_true_iff_forall_mem.1 q3 f (by simpa using hf);simpa using this
      have ad:=xg (P:=P) (w:=w) hT 9998 (M':=Own M h blk) (us:=us) (vs:=vs) F.toList 0 xs ys b Z (by rw[hF];exact U.2) O
       (fun j x hj=>by rw[ahr];exact⟨h2 j x hj,by have:=(ag5.1 hj).1;omega⟩) (fun j x hj=>by rw[ahr];exact⟨g2 j x hj,by have:=(ag5.1 hj).1;omega⟩)
      refine⟨?_,fun p q op =>?_,fun op Y =>?_⟩
      ·exact run_equalIn_struct 9998 hd q1 ad
      ·cases op<;>first|rfl|simp[eqGuard,program,Sem.run,q2]
      ·rcases Y with rfl|rfl<;>rfl
   ·cases O
  ·cases O
 ·cases O
theorem Qk (hT:ig P T) (U:Inv N M L w0 blk V t h a w) {x y:Operand} {op:BinOp} {ty ty':Nat} {d:D} (X:o.op=.binOp op ty x y ty') (O:yR T ty op (ev t x) (ev t y)=some d):dY P o a w (bd N M L w0 V t h a e o.dst ⟨d,[]⟩):=by
 have hx:=U.ev x;have hy:=U.ev y;generalize ev t x=p at *;generalize ev t y=q at *;unfold yR at O;split at O
 ·rename_i k i k' j;have hu:=ln hx;have hv:=ln hy;have hg:(eqGuard op ty x y (.int k i) (.int k' j)).run P w=.ok () w:=by cases op<;>rfl
  split at O
  ·rename_i hs;obtain⟨v,Y,Z⟩:=Rr (P:=P) (w:=w) (M:=Own M h blk) (ty:=ty) (k':=k') hs O;exact aL (by simp[execOp,X,hu,hv,hg,Y]) (bd.dO U (bz Z))
  ·rename_i hs;split at O
   ·rename_i hk;subst hk;obtain⟨v,Y,Z⟩:=Y0 (P:=P) (w:=w) (M:=Own M h blk) (ty:=ty) (by simpa using hs) O;exact aL (by simp[execOp,X,hu,hv,hg,Y]) (bd.dO U (bz Z))
   ·cases O
 ·rename_i s s';have hu:=Cm hx;have hv:=Cm hy;have hg:(eqGuard op ty x y (.string s) (.string s')).run P w=.ok () w:=by cases op<;>rfl
  obtain⟨v,Y,Z⟩:=Y2 (P:=P) (w:=w) (M:=Own M h blk) (ty:=ty) O;exact aL (by simp[execOp,X,hu,hv,hg,Y]) (bd.dO U (bz Z))
 ·split at O
  ·rename_i τ hτ;split at O
   ·split at O
    ·rename_i c hc;simp only[agL]at O;subst O;obtain⟨r1,r2,r3⟩:=T9 (P:=P) hT U hτ hx hy hc;have hb:=r3 .eql (.inl rfl);exact aL (v := .bool c) (w':=w) (by simp[execOp,X,r2,hb,r1]) (bd.dO U (bz (.bool _)))
    ·cases O
   ·split at O
    ·rename_i c hc;simp only[agL]at O;subst O;obtain⟨r1,r2,r3⟩:=T9 (P:=P) hT U hτ hx hy hc;have hb:=r3 .neq (.inr rfl);exact aL (v := .bool !c) (w':=w) (by simp[execOp,X,r2,hb,r1]) (bd.dO U (bz (.bool _)))
    ·cases O
   ·cases O
  ·cases O
end
theorem AK (n:Int):∀(ks:List Int) (l:List MapEntry) (us:Nat->Value) (i:Nat),l.length=ks.length->(∀j k,ks[j]? = some k->∃e:MapEntry,l[j]? = some e∧e.key=.int .i64 k∧e.val=us j) ->
  Instr.findNow (.int .i64) (.int .i64 n) l i=some (if ks.contains n then some (i+ks.idxOf n,us (ks.idxOf n)) else none)
 | [],[],_,_,_,_=>by simp[Instr.findNow]
 | k::ks,e::l,us,i,X,h=>by
  obtain⟨e',h1,h2,h3⟩:=h 0 k rfl;simp only[List.getElem?_cons_zero,agL]at h1;subst h1;have Y:=AK n ks l (fun j=>us (j+1)) (i+1) (by simpa using X) (fun j k Z=>by simpa using h (j+1) k (by simpa using Z))
  by_cases hk:k=n
  ·subst hk;simp[Instr.findNow,h2,Instr.sameNow,h3,ahF]
  ·have O:(n==k)=false:=by simp[Ne.symm hk]
   have U:(k==n)=false:=by simp[hk]
   simp only[Instr.findNow,h2,Instr.sameNow,if_true,O,Y,ahG,ahH,ahF,U,cond_false];have e1:i+1+List.idxOf n ks=i+(List.idxOf n ks+1):=by omega
   rw[e1]
theorem Vx {ks:List cr} (h:ks.all (fun k=>Ga k==false)=true):ks=(ks.map (·.1)).map fun n=>(n,none):=by
 induction ks with
 | nil=>rfl
 | cons k ks O =>
  simp only[List.all_cons,ahd]at h;obtain⟨a,x⟩:=k;cases x with
  | none=>simp only[agI];rw[<- O h.2]
  | some b=>simp[Ga]at h
theorem xx (n:Int) (l:List Int):(l.map fun m=>((m,none):cr)).contains (n,none)=l.contains n∧(l.map fun m=>((m,none):cr)).idxOf (n,none)=l.idxOf n:=by
 induction l with
 | nil=>exact⟨rfl,rfl⟩
 | cons m l X =>
  have O:∀n m:Int,(((n,none):cr)==(m,none))=(n==m):=fun n m=>by
   by_cases h:n=m
   ·subst h;rw[beq_self_eq_true,beq_self_eq_true]
   ·rw[beq_eq_false_iff_ne.2 h,beq_eq_false_iff_ne.2 (fun e=>h (congrArg Prod.fst e))]
  have Y:=O n m;have U:=O m n;simp only[agI,ahG,ahF,Y,U,X.1,X.2,and_self]
theorem MC (n:Int) (ks:List cr) (l:List MapEntry) (us:Nat->Value) (O:l.length=ks.length) (U:ks.all (fun k=>Ga k==false)=true) (h:∀j k,ks[j]? = some k->∃e:MapEntry,l[j]? = some e∧e.key=kf k∧e.val=us j) :
  Instr.findNow (.int .i64) (.int .i64 n) l 0=some (if ks.contains (n,none) then some (ks.idxOf (n,none),us (ks.idxOf (n,none))) else none):=by
 have hk:=Vx U;generalize ks.map (·.1)=q at hk;subst hk;have:=AK n q l us 0 (by simpa using O) (fun j k X=>by
  obtain⟨e,h1,h2,h3⟩:=h j (k,none) (by simp[X]);exact⟨e,h1,h2,h3⟩)
 rw[(xx n q).1,(xx n q).2];simpa using this
theorem NX (z:D) (n:cr):∀(ks:List cr) (vs:List D),vs.length=ks.length->pr z ks vs n=if ks.contains n then vs.getD (ks.idxOf n) z else z
 | [],_,_=>by simp[pr]
 | k::ks,v::vs,X=>by
  have Y:=NX z n ks vs (by simpa using X)
  by_cases hk:k=n
  ·subst hk;simp[pr,ahF]
  ·have O:(n==k)=false:=by simp[Ne.symm hk]
   have U:(k==n)=false:=by simp[hk]
   simp[pr,hk,Y,ahF,O,U,Ne.symm hk]
section
variable {P:Program} {T:Nat->Option Ty} {N:Nat} {M:Nat->Prop} {L:jg} {w0:World} {blk:Nat->Option (Nat×Nat)} {V:Nat->Nat->Prop} {t:Nat->D} {h:Nat->Option Row} {a:Act} {w:World} {e:Nat} {o:Oper}
theorem Vw {κ:Ty} (hk:tS T κ=some true):∃a b α β,κ.ds=.struct [(a,0),(b,1)]∧T a=some α∧T b=some β∧α.ds=.int .i64∧β.ds=.int .i64∧κ.eqok=true:=by
 unfold tS at hk;split at hk
 ·cases hk
 ·rename_i a b O;split at hk
  ·rename_i α β U X;split at hk
   ·rename_i h1 h2;split at hk
    ·rename_i Y;exact⟨a,b,α,β,O,U,X,h1,h2,Y⟩
    ·cases hk
   ·cases hk
  ·cases hk
 ·cases hk
theorem Vv {κ:Ty} (hk:tS T κ=some false):κ.ds=.int .i64:=by
 unfold tS at hk;split at hk
 ·assumption
 ·split at hk
  ·split at hk
   ·split at hk<;>cases hk
   ·cases hk
  ·cases hk
 ·cases hk
theorem AT (Z:ig P T) {ty:Nat} {τ φ:Ty} {b:Bool} (hτ:T ty=some τ) (hm:D9 T τ=some (b,φ)):∃X Y κ,P.underlying ty=some (.map X Y)∧T X=some κ∧tS T κ=some b∧T Y=some φ:=by
 unfold D9 at hm;split at hm
 ·rename_i k el U;split at hm
  ·rename_i κ φ' hκ hφ;split at hm
   ·rename_i b' hk;simp only[agL,Prod.mk.injEq]at hm;obtain⟨rfl,rfl⟩:=hm;obtain⟨d,hd,O⟩:=under Z hτ;rw[U]at O;refine⟨k,el,κ,?_,hκ,hk,hφ⟩;cases d<;>simp[conv]at O;obtain⟨rfl,rfl⟩:=O;exact hd
   ·cases hm
  ·cases hm
 ·cases hm
theorem Inv.key (Z:Inv N M L w0 blk V t h a w) {i:Operand} {n:cr} (hk:Vu (Am.ev t i)=some n):a.eval i=kf n:=by
 have U:=Z.ev i;generalize Am.ev t i=d at *;unfold Vu at hk;split at hk
 ·simp only[agL]at hk;subst hk;exact ln U
 ·simp only[agL]at hk;subst hk;have O:RP w (Own M h blk) (.agg _) (a.eval i):=U;generalize a.eval i=u at O;cases O with
  | agg xs us h1 h2 h3 =>
   match us,h1 with
   | [u1,u2],_ =>
    have X:=h2 0 _ rfl;have Y:=h2 1 _ rfl;simp only[ahJ,ahK]at X Y;cases X;cases Y;rfl
 ·cases hk
theorem xj (hT:ig P T) {O:Nat} {κ:Ty} (hκ:T O=some κ) (hk:tS T κ=some true):∃(F:Array Field) (f1 f2:Field) (α β:Ty),P.underlying O=some (.struct F)∧F.toList=[f1,f2]∧f1.offset=0∧f2.offset=1∧T f1.type=some α∧T f2.type=some β∧α.ds=.int .i64∧β.ds=.int .i64∧P.stoodInHeld O=false∧f1.name ≠ "_"∧f2.name ≠ "_":=by
 obtain⟨a,b,α,β,Y,hα,hβ,h1,h2,hq⟩:=Vw hk;obtain⟨d,hd,hc⟩:=under hT hκ;rw[Y]at hc;obtain⟨F,rfl,U⟩:=gJ hc;obtain⟨q1,q2,Z⟩:=(hT O κ hκ).eqs hq;rw[hd]at Z;simp only at Z;have hlen:F.toList.length=2:=by simpa using congrArg List.length U
 match X:F.toList,hlen with
 | [f1,f2],_ =>
  rw[X]at U;simp only[agI,ahs,ag0,Prod.mk.injEq,and_true]at U;obtain⟨⟨rfl,o1⟩,⟨rfl,o2⟩⟩:=U;have hn:∀f∈F.toList,f.name ≠ "_":=by
   intro f hf;have:=Array.all_eq_true_iff_forall_mem.1 Z f (by simpa using hf);simpa using this
  exact⟨F,f1,f2,α,β,hd,X,o1,o2,hα,hβ,h1,h2,q1,hn f1 (by rw[X];simp),hn f2 (by rw[X];simp)⟩
theorem VU (U:ig P T) {X:Nat} {κ:Ty} (hκ:T X=some κ) (hk:tS T κ=some true) (a b c d:Int):(Op.equal X (.agg #[.int .i64 a,.int .i64 b]) (.agg #[.int .i64 c,.int .i64 d])).run P w=.ok (a==c&&b==d) w:=by
 obtain⟨F,f1,f2,α,β,hd,Y,o1,o2,hα,hβ,h1,h2,q1,n1,n2⟩:=xj U hκ hk;refine run_equalIn_struct (us:=[.int .i64 a,.int .i64 b]) (vs:=[.int .i64 c,.int .i64 d]) 9998 hd q1 ?_;refine xg (P:=P) (w:=w) U 9998 (M':=fun _=>False) F.toList 0 [.int .i64 a,.int .i64 b] [.int .i64 c,.int .i64 d] _ ?_ ?_ ?_ ?_ ?_
 ·rw[Y];intro f Z;simp only[agJ,ahL,or_false]at Z;rcases Z with rfl|rfl
  ·exact n1
  ·exact n2
 ·rw[Y];simp[fi,o1,o2,hα,hβ,h1,h2,kindOk]
 ·simp[Tf,PZ]
 ·intro j x O
  match j,O with
  | 0,O=>simp only[List.getElem?_cons_zero,agL]at O;subst O;exact⟨.int _ _,by simp⟩
  | 1,O=>simp only[List.getElem?_cons_succ,List.getElem?_cons_zero,agL]at O;subst O;exact⟨.int _ _,by simp⟩
  | j+2,O=>simp at O
 ·intro j x O
  match j,O with
  | 0,O=>simp only[List.getElem?_cons_zero,agL]at O;subst O;exact⟨.int _ _,by simp⟩
  | 1,O=>simp only[List.getElem?_cons_succ,List.getElem?_cons_zero,agL]at O;subst O;exact⟨.int _ _,by simp⟩
  | j+2,O=>simp at O
theorem zY {k:cr} (h:(Ga k==true)=true):∃a b,k=(a,some b):=by
 obtain⟨a,x⟩:=k;cases x with
 | none=>simp[Ga]at h
 | some b=>exact⟨a,b,rfl⟩
theorem ui (Y:ig P T) {Z:Nat} {κ:Ty} (hκ:T Z=some κ) (hk:tS T κ=some true) {n:cr} (hn:(Ga n==true)=true):∀(ks:List cr) (l:List MapEntry) (us:Nat->Value) (i:Nat),l.length=ks.length->ks.all (fun k=>Ga k==true)=true->(∀j k,ks[j]? = some k->∃e:MapEntry,l[j]? = some e∧e.key=kf k∧e.val=us j) ->
  (Instr.findAsking Z (kf n) l i).run P w=.ok (if ks.contains n then some (i+ks.idxOf n,us (ks.idxOf n)) else none) w
 | [],[],_,_,_,_,_=>by simp[Instr.findAsking]
 | k::ks,e::l,us,i,hl,U,h=>by
  simp only[List.all_cons,ahd]at U;obtain⟨e',h1,h2,h3⟩:=h 0 k rfl;simp only[List.getElem?_cons_zero,agL]at h1;subst h1;have ih:=ui Y hκ hk hn ks l (fun j=>us (j+1)) (i+1) (by simpa using hl) U.2 (fun j k hj=>by simpa using h (j+1) k (by simpa using hj));obtain⟨a,b,rfl⟩:=zY hn;obtain⟨c,d,rfl⟩:=zY U.1;have heq:=VU (P:=P) (w:=w) Y hκ hk a b c d;have X:(((a,some b):cr)==(c,some d))=(a==c&&b==d):=by
   rw[Bool.eq_iff_iff,beq_iff_eq,ahd,beq_iff_eq,beq_iff_eq];constructor
   ·intro h;injection h with h1 h2;injection h2 with h2;exact⟨h1,h2⟩
   ·rintro⟨rfl,rfl⟩;rfl
  have O:(((c,some d):cr)==(a,some b))=(a==c&&b==d):=by
   rw[Bool.eq_iff_iff,beq_iff_eq,ahd,beq_iff_eq,beq_iff_eq];constructor
   ·intro h;injection h with h1 h2;injection h2 with h2;exact⟨h1.symm,h2.symm⟩
   ·rintro⟨rfl,rfl⟩;rfl
  simp only[Instr.findAsking,kf,ag9,h2,heq,Result.andThen_ok,ahG,ahF,X,O];cases hq:(a==c&&b==d) with
  | true=>simp[h3]
  | false =>
   simp only[ahc,if_false,ahH,cond_false];simp only[kf]at ih;rw[ih];have e1:i+1+List.idxOf ((a,some b):cr) ks=i+(List.idxOf ((a,some b):cr) ks+1):=by omega
   rw[e1]
theorem Kw (X:ig P T) {kt:Nat} {κ:Ty} (hκ:T kt=some κ) (hk:tS T κ=some true) (a b:Int) (em:Bool):(Instr.checkKey em 10000 kt (.agg #[.int .i64 a,.int .i64 b])).run P w=.ok () w:=by
 obtain⟨F,f1,f2,α,β,hd,hL,o1,o2,hα,hβ,h1,h2,q1,n1,n2⟩:=xj X hκ hk;obtain⟨d1,Y,O⟩:=under X hα;obtain⟨d2,Z,U⟩:=under X hβ;rw[h1]at O;rw[h2]at U;have e1:d1=.int .i64:=by cases d1<;>simp[conv]at O;subst O;rfl
 have e2:d2=.int .i64:=by cases d2<;>simp[conv]at U;subst U;rfl
 subst e1 e2;have p1:(part f1.type #[Value.int .i64 a,.int .i64 b] f1.offset).run P w=.ok (.int .i64 a) w:=by
  simp[part,ag9,kZ (X _ _ hα),h1,Ds.oD,o1,Result.andThen]
 have p2:(part f2.type #[Value.int .i64 a,.int .i64 b] f2.offset).run P w=.ok (.int .i64 b) w:=by
  simp[part,ag9,kZ (X _ _ hβ),h2,Ds.oD,o2,Result.andThen]
 have c1:=MapKept.run_checkKey (w:=w) Y (show MapKept.IsKey (.int .i64) (.int .i64 a) from rfl) em 9998;have c2:=MapKept.run_checkKey (w:=w) Z (show MapKept.IsKey (.int .i64) (.int .i64 b) from rfl) em 9998;rw[Instr.checkKey];simp only[ag9,run_underlying hd,Result.andThen_ok];rw[<- Array.forIn_toList,hL];simp[List.forIn_cons,ag9,n1,n2,p1,p2,c1,c2,Result.andThen]
theorem O6 (Y:ig P T) {kt:Nat} {κ:Ty} {b:Bool} (Z:T kt=some κ) (hk:tS T κ=some b) {n:cr} {ks:List cr} (U:lz b n ks=true) {l:List MapEntry} {us:Nat->Value} (hl:l.length=ks.length) (h:∀j k,ks[j]? = some k->∃e:MapEntry,l[j]? = some e∧e.key=kf k∧e.val=us j) :
  (∀em,(Instr.checkKey em 10000 kt (kf n)).run P w=.ok () w)∧(Instr.findKey kt (kf n) l).run P w=.ok (if ks.contains n then some (ks.idxOf n,us (ks.idxOf n)) else none) w∧(Instr.keyThatStays (kf n) (kf n)).run P w=.ok (kf n) w:=by
 simp only[lz,ahd]at U;cases b with
 | false =>
  obtain⟨n,x⟩:=n;cases x with
  | some y=>simp[Ga]at U
  | none =>
   obtain⟨d,hd,hc⟩:=under Y Z;rw[Vv hk]at hc;have aa:d=.int .i64:=by cases d<;>simp[conv]at hc;subst hc;rfl
   subst aa;have O:MapKept.IsKey (.int .i64) (.int .i64 n):=rfl;exact⟨fun em=>MapKept.run_checkKey (w:=w) hd O em 9999,MapKept.run_findKey (w:=w) hd (MC n ks l us hl U.2 h),MapKept.run_keyThatStays (P:=P) (w:=w) O⟩
 | true =>
  obtain⟨F,f1,f2,α,β,hd,_⟩:=xj Y Z hk;have X:=ui (P:=P) (w:=w) Y Z hk U.1 ks l us 0 hl U.2 h;obtain⟨x,y,rfl⟩:=zY U.1;refine⟨fun em=>Kw Y Z hk x y em,?_,?_⟩
  ·rw[ahr]at X;unfold Instr.findKey;simp only[ag9,run_underlying hd,Result.andThen_ok];cases l with
   | nil =>
    cases ks with
    | nil=>simp[Instr.findNow]
    | cons _ _=>simp at hl
   | cons e l =>
    have:Instr.findNow (.struct F) (kf (x,some y)) (e::l) 0=none:=by simp[Instr.findNow,Instr.sameNow]
    rw[this];exact X
  ·simp[Instr.keyThatStays,kf,Instr.sameBits]
theorem zeroV (hT:ig P T) {ty:Nat} {φ:Ty} {z:D} (hφ:T ty=some φ) (O:jw φ (φ.zero.map lN)=some z) (hp:(φ.zero.map lN).all ba=true) (w:World) (M:Nat->Prop):∃U,(zeroValue ty).run P w=.ok U w∧RP w M z U:=by
 have hτ:=hT ty φ hφ;obtain⟨d,i,U,h1,h2,h3,h4,h5,h6,h7⟩:=hτ.get;have Z:=hτ.agg;rw[h3]at Z;simp only[Option.map_some,h6,agL]at Z;refine⟨U,by simp[zeroValue,typeInfo,h3,h6],?_⟩;have hc:=fun j x X=>pL φ.zero hp (w:=w) (M:=M) j x X;unfold jw at O;rw[<- Z]at O;cases U with
 | agg cs =>
  simp only[Q0,if_true,agL]at O;subst O;simp only[Value.cells]at h7;subst h7;refine .agg _ φ.zero (by simp) (fun j x X =>?_) (fun x hx =>?_)
  ·have:=(hc j x X).2;simpa [agH,ahf] using this
  ·obtain⟨j,X⟩:=agY hx;exact (hc j x X).1
 | _ =>
  simp only[Q0,ahc,if_false]at O;split at O
  ·rename_i d hd;simp only[agL]at O;subst O;have Y:=(hc 0 d (by rw[hd];rfl)).2;rw[<- h7]at Y;simpa [Value.cells] using Y
  ·cases O
theorem Inv.TJ (hI:Inv N M L w0 blk V t h a w) {m:D} {u:Value} {ks:List cr} {vs:List D} (hm:mapOf h m=some (ks,vs)) (Z:RT w (Own M h blk) h blk V m u) :
  vs.length=ks.length∧∃(ents:Array MapEntry) (us:Nat->Value),ents.size=ks.length∧((u=.map none∧ents = #[])∨∃b clock,u=.map (some b)∧w.heap[b]? = some (.map ents clock))∧(∀j k,ks[j]? = some k->∃e:MapEntry,ents[j]? = some e∧e.key=kf k∧e.val=us j)∧∀j x,vs[j]? = some x->RP w (Own M h blk) x (us j):=by
 cases m with
 | mp x v =>
  simp only[mapOf]at hm;obtain⟨g,r,h1,h2,h3,h4,h5,rfl,h6,ents,clock,h7,h8,_,us,h9,O⟩:=hI.N2 hm Z;exact⟨h6,ents,us,h8,.inr ⟨g.1,clock,rfl,h7⟩,h9,O⟩
 | mpc U X =>
  simp only[mapOf,agL,Prod.mk.injEq]at hm;obtain⟨rfl,rfl⟩:=hm;have Y:RP w (Own M h blk) (.mpc U X) u:=Z;cases Y with
  | mpc _ _ mb us h1 h2 h3 h4 =>
   refine⟨h1,?_⟩;cases mb with
   | none =>
    have:=h2 rfl;subst this;exact⟨#[],us,rfl,.inl ⟨rfl,rfl⟩,fun j k hj=>by simp at hj,h4⟩
   | some b =>
    obtain⟨k1,k2,ents,clock,k3,k4,k5⟩:=h3 b rfl;exact⟨ents,us,k4,.inr ⟨b,clock,rfl,k3⟩,k5,h4⟩
 | _=>simp[mapOf]at hm
theorem JJ (hT:ig P T) (hI:Inv N M L w0 blk V t h a w) {ty d:Nat} {τ:Ty} {E:bF} (ho:o.op=.makeMap ty none) (hd:o.dst=some d) (hV:iR N V d e) (hτ:T ty=some τ) (O:ml T ty τ e d=some E):dY P o a w (bd N M L w0 V t h a e o.dst E):=by
 unfold ml at O;split at O
 ·split at O
  ·cases O
  rename_i X;simp only[agL]at O;subst O;have U:=(Below.refl w.heap.size w).alloc (agC _) (.map #[] 0);have Y:=hI.Cp (w':=w.alloc (.map #[] 0)) (h1:=h) (old:=none) (d:=d) (e:=e) (r0:=⟨e,ty,[.mpc [] []],false,true,true⟩) (go:=some (w.heap.size,0)) U.os U.tape U.output U.size (fun k hk _=>Below.heap_alloc w _ k hk) (fun y hy=>by cases hy) rfl hV
   ⟨.inl (agC _),by
    refine .inl ?_;exact⟨[],[],rfl,rfl,fun _=>⟨#[],0,heap_alloc_new w _,rfl,MapKept.stamped_empty 0,fun _=>undef,fun j k Z=>by simp at Z,fun j x Z=>by simp at Z⟩,fun hq=>absurd hq X⟩⟩ rfl rfl (fun _ _ _ j x s n h=>by cases j<;>simp at h)
  refine aL (v := .map (some w.heap.size)) (w':=w.alloc (.map #[] 0)) ?_ ⟨bI blk d (some (w.heap.size,0)),?_,?_⟩
  ·simp[execOp,ho,Instr.makeMap,Result.andThen]
  ·refine Y.weaken fun x v hx =>?_;rcases hx with hx|⟨rfl,rfl⟩
   ·exact .inl hx
   ·exact .inr ⟨hd,rfl⟩
  ·exact⟨.inr ⟨hd,rfl⟩,fun _ _ _=>⟨(w.heap.size,0),aq _ _ _,rfl⟩⟩
 ·cases O
theorem Mg (hT:ig P T) (hI:Inv N M L w0 blk V t h a w) {ty:Nat} {m i:Operand} {ok:Bool} {τ:Ty} {E:bF} (ho:o.op=.lookup ty m i ok) (hτ:T ty=some τ) (X:gm T τ h (ev t m) (ev t i) ok=some E):dY P o a w (bd N M L w0 V t h a e o.dst E):=by
 unfold gm at X;split at X
 ·rename_i b φ ks vs n ao aq hi;split at X
  ·rename_i z hz;split at X
   ·rename_i Z;obtain⟨ar,au⟩:=Z;simp only[agL]at X;subst X;obtain⟨kt,et,κ,aa,hκ,av,hφ⟩:=AT hT hτ ao;obtain⟨hlen,ents,us,ag,ah,hk,hv⟩:=hI.TJ aq (hI.ev m);have ab:a.eval i=kf n:=hI.key hi;obtain⟨zv,ai,aw⟩:=zeroV hT hφ hz au w (Own M h blk);obtain⟨aj,O,_⟩:=O6 (P:=P) (w:=w) hT hκ av ar (l:=ents.toList) (us:=us) (by simpa using ag) (fun j k U=>by simpa using hk j k U);have ad:=aj ents.isEmpty;have hl:=NX (fL z) n ks vs hlen;have ak:(execOp a.eval o).run P w=.ok (.value (if ok then .tuple #[if ks.contains n then us (ks.idxOf n) else zv,.bool (ks.contains n)] else if ks.contains n then us (ks.idxOf n) else zv)) w:=by
     rcases ah with⟨ax,rfl⟩|⟨b,clock,al,ae⟩
     ·have ay:ks=[]:=by simpa using ag.symm
      subst ay;simp only[List.contains_nil,ahc,if_false]at O ⊢;cases ok<;>simp[execOp,ho,Instr.lookup,run_underlying aa,ax,ab,ad,O,ai,Result.andThen]<;>simp_all
     ·have an:=MapKept.run_getObj_map (P:=P) ae;cases hc:ks.contains n with
      | true =>
       rw[hc]at O;simp only[if_true]at O;cases ok<;>simp[execOp,ho,Instr.lookup,run_underlying aa,al,ab,an,ad,O,Result.andThen]
      | false =>
       rw[hc]at O;simp only[ahc,if_false]at O;cases ok<;>simp[execOp,ho,Instr.lookup,run_underlying aa,al,ab,an,ad,O,ai,Result.andThen]
    have Y:RP w (Own M h blk) (pr (fL z) ks vs n) (if ks.contains n then us (ks.idxOf n) else zv):=by
     rw[hl];split
     ·rename_i hc;have az:ks.idxOf n<vs.length:=by rw[hlen];exact ahN (by simpa using hc)
      refine hv _ _ ?_;simp[ahf,az]
     ·exact aw.fL
    refine aL ak (bd.dO hI ?_);cases ok with
    | false=>exact bz Y
    | true =>
     refine bz (.tup _ [_,_] rfl fun j x U =>?_)
     match j,U with
     | 0,U=>simp only[List.getElem?_cons_zero,agL]at U;subst U;exact Y
     | 1,U=>simp only[List.getElem?_cons_succ,List.getElem?_cons_zero,agL]at U;subst U;exact .bool _
     | j+2,U=>simp at U
   ·cases X
  ·cases X
 ·cases X
theorem Inv.sY (Z:Inv N M L w0 blk V t h a w) {d U:D} {fr:List Nat} {u:Value} {M':Nat->Prop} (O:sY h d=some (U,fr)) (Y:nP M h blk fr M') (X:RT w (Own M h blk) h blk V d u):RP w M' U u:=by
 have hk:∀b,b<w.heap.size->¬Own M h blk b->b<w.heap.size∧¬M' b∧w.heap[b]? = w.heap[b]?:=fun b h1 h2=>⟨h1,fun hb=>h2 (Y.le b hb),rfl⟩;have one:∀d,Am.sY h d=(match Am.dH h d with|some (U,fr)=>some (canon U,fr)|none=>none)->Am.sY h d=some (U,fr)->RT w (Own M h blk) h blk V d u->RP w M' U u:=by
  intro d he O X;rw[he]at O;split at O
  ·rename_i d1 aa h1;simp only[agL,Prod.mk.injEq]at O;obtain⟨rfl,rfl⟩:=O;exact (Z.dH h1 Y X).1.canon
  ·cases O
 cases d with
 | agg xs =>
  simp only[Am.sY,agL,Prod.mk.injEq]at O;obtain⟨rfl,rfl⟩:=O;exact (RP.keep hk (show RP w (Own M h blk) (.agg xs) u from X)).fL
 | _=>exact one _ rfl O X
theorem YW (ks:List cr) (vs:List D) (n:cr) (d:D) (h:vs.length=ks.length):(BG ks vs n d).length=(xb ks n).length:=by
 unfold BG xb;split<;>simp[h]
theorem tu (hT:ig P T) (hI:Inv N M L w0 blk V t h a w) {ty:Nat} {m i x:Operand} {τ:Ty} {E:bF} (ho:o.op=.mapUpdate ty m i x∨o.op=.insert ty m i x) (hτ:T ty=some τ) (hE:cN T τ h (ev t m) (ev t i) (ev t x)=some E):dY P o a w (bd N M L w0 V t h a e o.dst E):=by
 have hm:=hI.ev m;unfold cN at hE;split at hE
 ·rename_i b φ y v n d fr aG aH hi ak;rw[aH]at hm;split at hE
  ·rename_i r hr;split at hE
   ·rename_i ks vs al;split at hE
    ·rename_i ag;obtain⟨aI,hfz,aJ⟩:=ag;simp only[agL]at hE;subst hE;obtain⟨kt,et,κ,an,hκ,aK,hφ⟩:=AT hT hτ aG;have ao:a.eval i=kf n:=hI.key hi;have aq:=hI.freeze fr;have ar:=hI.sY ak (hI.fB fr) (hI.ev x);obtain⟨g,r',h1,h2,h3,h4,h5,au,_⟩:=hI.N2 al hm;rw[hr]at h1;simp only[agL]at h1;subst h1;have ah:aO h (iF h fr) y=some r:=by rw[y3 aJ];exact hr
     have ab:=aq.rowIs ah h5;unfold dU at ab;rw[h3]at ab;rcases ab with ab|⟨ab,_⟩;rotate_left
     ·rw[h4]at ab;have:=ab _ (agZ.2 rfl);cases this
     obtain⟨aS,aT,i1,hlen,aL,_⟩:=ab;have av:r.ty<900000:=by
      obtain⟨r3,z1,_,_,_,z5⟩:=D3 al;rw[hr]at z1;cases z1;exact z5
     obtain⟨ents,clock,Y,ai,aw,us,hk,hv⟩:=aL av;rw[h4]at i1;simp only[ag0,D.mpc.injEq,and_true]at i1;obtain⟨rfl,rfl⟩:=i1;obtain⟨ax,ad,aM⟩:=O6 (P:=P) (w:=w) hT hκ aK aI (l:=ents.toList) (us:=us) (by simpa using ai) (fun j k hj=>by simpa using hk j k hj);have ay:=ax false;have az:=MapKept.run_getObj_map (P:=P) Y;have aU:g.1<w.heap.size:=(agG.1 Y).1;have key:∃(O:Array MapEntry) (U:Nat) (ae:Nat->Value),(execOp a.eval o).run P w=.ok .skip { w with heap:=w.heap.setIfInBounds g.1 (.map O U) }∧O.size=(xb ks n).length∧MapKept.Stamped O U∧(∀j k,(xb ks n)[j]? = some k->∃e:MapEntry,O[j]? = some e∧e.key=kf k∧e.val=ae j)∧∀j z,(BG ks vs n d)[j]? = some z->RP w (Own M (aO h (iF h fr)) blk) z (ae j):=by
      cases hc:ks.contains n with
      | true =>
       rw[hc]at ad;simp only[if_true]at ad;have hj:ks.idxOf n<ks.length:=ahN (by simpa using hc);have aA:ks[ks.idxOf n]? = some n:=by rw[agP hj];simp
       obtain⟨e0,q1,q2,q3⟩:=hk _ _ aA;have aN:(((ents[ks.idxOf n]?).map (·.key)).getD (kf n))=kf n:=by rw[q1];exact q2
       refine⟨ents.modify (ks.idxOf n) (fun e=>{ e with key:=kf n,val:=a.eval x }),clock,fun j=>if j=ks.idxOf n then a.eval x else us j,?_,?_,?_,fun j k Z =>?_,fun j z X =>?_⟩
       ·have hset:=fun ob=>MapKept.run_setObj_map (P:=P) ob Y;rcases ho with ho|ho<;>simp[execOp,ho,Instr.mapUpdate,run_underlying an,au,ao,az,ay,ad,aN,aM,hset,Result.andThen]
       ·simp only[Array.size_modify,xb,hc,if_true];exact ai
       ·exact MapKept.stamped_modify aw _ _ (fun e _=>rfl) (fun e _ he=>by rw[q1]at he;cases he;exact q2.symm)
       ·simp only[xb,hc,if_true]at Z;obtain⟨e1,p1,p2,p3⟩:=hk j k Z
        by_cases aa:ks.idxOf n=j
        ·subst aa;rw[aA]at Z;simp only[agL]at Z;subst Z;exact⟨{ e1 with key:=kf n,val:=a.eval x },by simp[agM,p1],rfl,by simp⟩
        ·exact⟨e1,by simp[agM,aa,p1],p2,by rw[p3];exact (if_neg (Ne.symm aa)).symm⟩
       ·simp only[BG,hc,if_true]at X;rw[List.getElem?_set]at X
        by_cases aa:ks.idxOf n=j
        ·subst aa;simp only[if_true]at X;split at X
         ·simp only[agL]at X;subst X;simp only[if_true];exact ar
         ·cases X
        ·rw[if_neg aa]at X;simp only[if_neg (Ne.symm aa)];exact hv j z X
      | false =>
       rw[hc]at ad;simp only[ahc,if_false]at ad;refine⟨ents.push { key:=kf n,val:=a.eval x,born:=clock },clock+1,fun j=>if j<ks.length then us j else a.eval x,?_,?_,?_,fun j k Z =>?_,fun j z X =>?_⟩
       ·have hset:=fun ob=>MapKept.run_setObj_map (P:=P) ob Y;rcases ho with ho|ho<;>simp[execOp,ho,Instr.mapUpdate,run_underlying an,au,ao,az,ay,ad,hset,Result.andThen]
       ·simp only[Array.size_push,xb,hc,ahc,if_false,ahO,List.length_cons,List.length_nil];omega
       ·refine MapKept.stamped_push aw fun x hx he =>?_;obtain⟨j,hj⟩:=agY hx;have aP:j<ks.length:=by have:=(ag5.1 hj).1;simp at this;omega
        obtain⟨e1,p1,p2,_⟩:=hk j _ (agP aP);rw[ahu,p1]at hj;cases hj;have:ks[j]=n:=Yk (p2.symm.trans he);rw[<- this]at hc;simp[agO]at hc
       ·simp only[xb,hc,ahc,if_false]at Z
        by_cases aa:j<ks.length
        ·rw[ahg aa]at Z;obtain⟨e1,p1,p2,p3⟩:=hk j k Z;exact⟨e1,by rw[Array.getElem?_push_lt (by omega)];rw[<- p1];exact (ahP (by omega)).symm,p2,by rw[p3];exact (if_pos aa).symm⟩
        ·rw[ahh (by omega)]at Z;have aj:j=ks.length:=by
          have:=(ag5.1 Z).1;simp at this;omega
         subst aj;simp only[ahQ,List.getElem?_cons_zero,agL]at Z;subst Z;exact⟨_,by rw[<- ai];exact Array.getElem?_push_size,rfl,by simp⟩
       ·simp only[BG,hc,ahc,if_false]at X
        by_cases aa:j<ks.length
        ·rw[ahg (by omega)]at X;simp only[if_pos aa];exact hv j z X
        ·rw[ahh (by omega)]at X;have aj:j=vs.length:=by
          have:=(ag5.1 X).1;simp at this;omega
         subst aj;simp only[ahQ,List.getElem?_cons_zero,agL]at X;subst X;simp only[if_neg aa];exact ar
     obtain⟨O,U,ae,aB,aC,aD,aQ,aR⟩:=key;have hset:=MapKept.heap_set (o' := .map O U) Y;have aE:(w.heap.setIfInBounds g.1 (.map O U)).size=w.heap.size:=by simp
     have aF:=aq.jC (hph:=fun _ _ _ j x s n h=>by cases j<;>simp at h) (r0:=⟨r.v,r.ty,[.mpc (xb ks n) (BG ks vs n d)],false,true,true⟩) (w':={ w with heap:=w.heap.setIfInBounds g.1 (.map O U) }) ah hfz rfl rfl rfl rfl (by show w.heap.size<=(w.heap.setIfInBounds g.1 _).size;rw[aE];exact agC _)
      (fun b _ hb=>hset.2 b (hb g h5)) (by
       rw[h5];refine⟨by simp[World.shape?,hset.1,Y],?_⟩;refine .inl ?_;refine⟨_,_,rfl,YW ks vs n d hlen,fun _=>⟨O,U,hset.1,aC,aD,ae,aQ,fun j z X=>(aR j z X).keep fun b q1 q2=>⟨by show b<(w.heap.setIfInBounds g.1 _).size;rw[aE];exact q1,q2,hset.2 b (fun e=>q2 (.inr ⟨y,r,g,ah,hfz,h5,e.symm⟩))⟩⟩,fun hq=>absurd hq (Nat.not_le.2 av)⟩) (fun hh=>by cases hh)
     refine .inr (.inl ⟨_,aB,blk,?_,trivial⟩);rw[gq];exact aF.weaken fun _ _ h =>.inl h
    ·cases hE
   ·cases hE
  ·cases hE
 ·cases hE
end
section
variable {P:Program} {T:Nat->Option Ty} {N:Nat} {M:Nat->Prop} {L:jg} {w0:World} {blk:Nat->Option (Nat×Nat)} {V:Nat->Nat->Prop} {t:Nat->D} {h:Nat->Option Row} {a:Act} {w:World} {e:Nat} {o:Oper} {Γ:Env}
theorem kM {α:Type} {c:Array α} {l:List α} (h:c.toList=l):c=l.toArray:=by rw[<- h]
theorem TK {β:Type} {f:Operand->β} {l:List Operand} {p q:β} (h:l.map f=[p,q]):∃s x,l=[s,x]∧f s=p∧f x=q:=by
 match l,h with
 | [s,x],h=>simp only[agI,ahs,ag0,and_true]at h;exact⟨s,x,rfl,h.1,h.2⟩
theorem aaW {β:Type} {f:Operand->β} {l:List Operand} {p:β} (h:l.map f=[p]):∃s,l=[s]∧f s=p:=by
 match l,h with
 | [s],h=>simp only[agI,ahs,ag0,and_true]at h;exact⟨s,rfl,h⟩
theorem map_cons {β:Type} {f:Operand->β} {l:List Operand} {p:β} {r:List β} (h:l.map f=p::r):∃s l',l=s::l'∧f s=p∧l'.map f=r:=by
 match l,h with
 | s::l',h=>simp only[agI,ag0]at h;exact⟨s,l',rfl,h.1,h.2⟩
theorem JF (hT:ig P T) (Z:Inv N M L w0 blk V t h a w) {c:Call} {b:Builtin} {E:bF} (ho:o.op=.call c) (hc:c.callee=.builtin b) (hV:∀d,o.dst=some d->iR N V d e)
  (O:cB T h e o.dst b c.argTypes.toList (c.args.toList.map (ev t))=some E):dY P o a w (bd N M L w0 V t h a e o.dst E):=by
 unfold cB at O;split at O
 ·rename_i ty ax x ae U;obtain⟨s,hs,rfl⟩:=aaW U;have ah:=kM hs;have aj:=kM ae;split at O
  ·rename_i al;split at O
   ·rename_i τ n hτ hn;have hp:=Z.ev s;obtain⟨d,hd,X⟩:=under hT hτ;obtain⟨l1,l2⟩:=RT.afP Z hn al hp;have aa:∀v,(Builtin.len_ c.argTypes o.type #[a.eval s]).run P w=.ok v w->(execOp a.eval o).run P w=.ok (.value v) w:=by
     intro v hr;simp[execOp,ho,resolve,hc,ah,invoke,builtin,hr]
    have ad:c.argTypes[0]? = some ty:=by rw[aj];rfl
    split at O
    ·rename_i z ab hz;rw[hz]at l1;obtain⟨hu,ag⟩:=l1 _ rfl;rw[ab]at X;have:=qP X;subst this;simp only[agL]at O;subst O;refine aL (aa (.int .i64 n) ?_) (bd.dO Z (bz (.int _ _)));simp[Builtin.len_,ad,run_underlying hd,hu,goInt,ag]
    ·rename_i el z1 z2 z3 z4 ab hz;obtain⟨A,k,hu⟩:=l2 (by rw[hz];intro s h;cases h);rw[ab]at X;have:=fM X;subst this;simp only[agL]at O;subst O;refine aL (aa (.int .i64 n) ?_) (bd.dO Z (bz (.int _ _)));simp[Builtin.len_,ad,run_underlying hd,hu,goInt]
    ·rename_i el z1 z2 z3 z4 z5 ab hz;obtain⟨A,k,hu⟩:=l2 (by rw[hz];intro s h;cases h);rw[ab]at X;have:=fM X;subst this;simp only[agL]at O;subst O;refine aL (aa (.int .i64 n) ?_) (bd.dO Z (bz (.int _ _)));simp[Builtin.len_,ad,run_underlying hd,hu,goInt]
    ·cases O
   ·rename_i τ hτ hn;split at O
    ·rename_i k el ks ay ab an;obtain⟨d,hd,X⟩:=under hT hτ;rw[ab]at X;have ao:d=.map k el:=by
      cases d<;>simp[conv]at X;obtain⟨rfl,rfl⟩:=X;rfl
     subst ao;simp only[agL]at O;subst O;obtain⟨hlen,ents,us,ag,ak,hk,hv⟩:=Z.TJ an (Z.ev s);have ad:c.argTypes[0]? = some ty:=by rw[aj];rfl
     refine aL (v := .int .i64 (ks.length:Nat)) (w':=w) ?_ (bd.dO Z (bz (.int _ _)));rcases ak with⟨aq,rfl⟩|⟨b,clock,ar,ai⟩
     ·have au:ks.length=0:=by simpa using ag.symm
      simp[execOp,ho,resolve,hc,ah,invoke,builtin,Builtin.len_,ad,run_underlying hd,aq,goInt,au]
     ·have av:=MapKept.run_getObj_map (P:=P) ai;simp[execOp,ho,resolve,hc,ah,invoke,builtin,Builtin.len_,ad,run_underlying hd,ar,av,goInt,ag,Result.andThen]
    ·cases O
   ·cases O
  ·cases O
 ·rename_i ty ty' p q ae U;obtain⟨s,x,hs,rfl,rfl⟩:=TK U;split at O
  ·rename_i aw;subst aw;split at O
   ·rename_i τ d hτ hd;exact Mf hT Z ho hc (kM hs) (kM ae) hd (hV d hd) hτ O
   ·cases O
  ·cases O
 ·rename_i k x r U;obtain⟨s,l,hs,h1,h2⟩:=map_cons U;split at O
  ·rename_i z hz;simp only[agL]at O;subst O;have hu:a.eval s=.int k x:=by have:=Z.ev s;rw[h1]at this;exact ln this
   have hr:=O7 (P:=P) (w:=w) (M:=M) (blk:=blk) (V:=V) (h:=h) k r (l.map a.eval) x z hz (by rw[<- h2];simp) (fun j d hj=>by
    rw[<- h2,agz]at hj;cases hx:l[j]? with
    | none=>simp[hx]at hj
    | some y =>
     simp only[hx,Option.map_some,agL]at hj;subst hj;have:(l.map a.eval).getD j undef=a.eval y:=by simp[List.getD,hx]
     rw[this];exact Z.ev y)
   refine aL (v := .int k z) (w':=w) ?_ (bd.dO Z (bz (.int _ _)));have Y:c.args.map a.eval=(Value.int k x::l.map a.eval).toArray:=by rw[kM hs];simp[hu]
   simp[execOp,ho,resolve,hc,Y,invoke,builtin,Builtin.max_,hr]
  ·cases O
 ·rename_i k x r U;obtain⟨s,l,hs,h1,h2⟩:=map_cons U;split at O
  ·rename_i z hz;simp only[agL]at O;subst O;have hu:a.eval s=.int k x:=by have:=Z.ev s;rw[h1]at this;exact ln this
   have hr:=O8 (P:=P) (w:=w) (M:=M) (blk:=blk) (V:=V) (h:=h) k r (l.map a.eval) x z hz (by rw[<- h2];simp) (fun j d hj=>by
    rw[<- h2,agz]at hj;cases hx:l[j]? with
    | none=>simp[hx]at hj
    | some y =>
     simp only[hx,Option.map_some,agL]at hj;subst hj;have:(l.map a.eval).getD j undef=a.eval y:=by simp[List.getD,hx]
     rw[this];exact Z.ev y)
   refine aL (v := .int k z) (w':=w) ?_ (bd.dO Z (bz (.int _ _)));have Y:c.args.map a.eval=(Value.int k x::l.map a.eval).toArray:=by rw[kM hs];simp[hu]
   simp[execOp,ho,resolve,hc,Y,invoke,builtin,Builtin.min_,hr]
  ·cases O
 ·cases O
theorem WC {h:Nat->Option Row} {d:D} {u:Value} {M':Nat->Prop} (O:jl d=true) (U:RT w M' h blk V d u):RC w M' h blk V d u:=by
 cases d with
 | buf _ _ _ _ _=>simp[jl]at O
 | clo _ _ _=>simp[jl]at O
 | und=>simp[jl]at O
 | skp=>simp[jl]at O
 | box1 _ _ _ _ _=>simp[jl]at O
 | _=>exact U
theorem FL (X:Inv N M L w0 blk V t h a w) {f:Nat} {first caps:Array Operand} (Z:o.op=.makeFunc (.func f) first caps) (Y:(first.toList.map (ev t)++caps.toList.map (ev t)).all jl=true) :
  dY P o a w (bd N M L w0 V t h a e o.dst ⟨.clo f first.size (first.toList.map (ev t)++caps.toList.map (ev t)),[]⟩):=by
 refine aL (v := .func (.func f) (first.map a.eval) (caps.map a.eval)) (w':=w) ?_ (bd.dO X ?_)
 ·simp[execOp,Z,Instr.makeFunc]
 ·refine⟨first.toList.map a.eval++caps.toList.map a.eval,?_,by simp,fun j x O =>?_⟩
  ·rw[List.take_left' (by simp),List.drop_left' (by simp),<- ahx,<- ahx]
  rw[agN]at Y;have U:=Y x (ag4 O);rw[<- ah9,agz,agA]at O;obtain⟨q,hq,rfl⟩:=O;have:(first.toList.map a.eval++caps.toList.map a.eval).getD j undef=a.eval q:=by rw[<- ah9];simp only[ahf,agz,hq];rfl
  rw[this];exact WC U (X.ev q)
theorem Vh (hT:ig P T) (hΓ:bH P Γ) (Y:Inv N M L w0 blk V t h a w) (hV:∀d,o.dst=some d->iR N V d e) (hP:∀x v,V x v->x<N∨2*PK<=x) {E:bF} (O:lS T Γ e o (ev t) h=some E):dY P o a w (bd N M L w0 V t h a e o.dst E):=by
 unfold lS at O;split at O
 ·rename_i x U;simp only[agL]at O;subst O;exact Hc Y (.inl U)
 ·rename_i x U;exact XA Y U hV O
 ·rename_i c x y U;split at O
  ·rename_i hc;simp only[agL]at O;subst O;exact Hd (b:=true) Y U hc
  ·rename_i hc;simp only[agL]at O;subst O;exact Hd (b:=false) Y U hc
  ·cases O
 ·rename_i ty U;split at O
  ·rename_i τ d X Z;split at O
   ·rename_i hz;simp only[agL]at O;subst O;exact Qj (hint:=Γ.hint) hT Y U Z X (hV d Z) hz
   ·cases O
  ·cases O
 ·rename_i ty x U;split at O
  ·rename_i d cs fr Z hc;split at O
   ·simp only[agL]at O;subst O;exact XC Y U Z (hV d Z) hc
   ·cases O
  ·cases O
 ·rename_i ty p U;split at O
  ·rename_i τ X;exact aaI hT Y U X O
  ·cases O
 ·rename_i ty p x U;split at O
  ·rename_i τ X;exact XL hT Y hP U X O
  ·cases O
 ·rename_i x U;exact XI Y U O
 ·rename_i ty x i U;split at O
  ·rename_i τ X;exact C1 hT Y U X O
  ·cases O
 ·rename_i ty x i U;split at O
  ·rename_i τ X;exact Qm hT Y U X O
  ·cases O
 ·rename_i ty x i U;split at O
  ·rename_i τ X;exact C2 hT Y U X O
  ·cases O
 ·rename_i ty x i U;split at O
  ·rename_i τ X;exact Qn hT Y U X O
  ·cases O
 ·rename_i ty x lo hi mx U;split at O
  ·rename_i τ X;exact Qp hT Y U X O
  ·cases O
 ·rename_i ty parts U;split at O
  ·rename_i τ X;exact XB hT Y U X O
  ·cases O
 ·rename_i ty len parts U;split at O
  ·rename_i τ d X Z;exact Bn hT Y U Z (hV d Z) X O
  ·cases O
 ·rename_i ty l c U;split at O
  ·rename_i τ d X Z;exact Vc hT Y U Z (hV d Z) X O
  ·cases O
 ·rename_i op ty x y ty' U;split at O
  ·rename_i d Z;simp only[agL]at O;subst O;exact Qk hT Y U Z
  ·cases O
 ·rename_i op ty x U;split at O
  ·rename_i d Z;simp only[agL]at O;subst O;exact Vf Y U Z
  ·cases O
 ·rename_i src dst x U;split at O
  ·rename_i τ k n σ X hσ hx;split at O
   ·rename_i k' aa;simp only[agL]at O;subst O;exact JG hT Y U X hσ aa hx
   ·cases O
  ·cases O
 ·rename_i fn first caps U
  split at O
  ·split at O
   ·rename_i hc;simp only[agL]at O;subst O;exact FL Y U hc
   ·cases O
  ·cases O
 ·rename_i ty U;split at O
  ·rename_i τ d X Z;exact JJ hT Y U Z (hV d Z) X O
  ·cases O
 ·rename_i ty m i ok U;split at O
  ·rename_i τ X;exact Mg hT Y U X O
  ·cases O
 ·rename_i ty m i x U;split at O
  ·rename_i τ X;exact tu hT Y (.inr U) X O
  ·cases O
 ·rename_i ty m i x U;split at O
  ·rename_i τ X;exact tu hT Y (.inl U) X O
  ·cases O
 ·rename_i x i U;split at O
  ·rename_i xs hx;split at O
   ·rename_i d Z;simp only[agL]at O;subst O;exact JH Y U hx Z
   ·cases O
  ·cases O
 ·rename_i c U;split at O
  ·rename_i f hc;exact Va hΓ Y U hc hV hP O
  ·rename_i b hc;exact JF hT Y U hc hV O
  ·cases O
 ·cases O
end
section
variable {T:Nat->Option Ty} {h h':Nat->Option Row} {e:Nat} {o:Oper} {Γ:Env}
theorem cP {x v:Nat} (O:h x=h' x):live h x v=live h' x v:=by simp[live,O]
theorem ju {x v:Nat} (O:h x=h' x):mX h x v=mX h' x v:=by simp[mX,O]
theorem mY {x v:Nat} (O:h x=h' x):gL h x v=gL h' x v:=by simp[gL,O]
theorem NL {d:D} {x v:Nat} (O:h x=h' x):xZ d h x v=xZ d h' x v:=by unfold xZ wW;rw[cP O,O]
theorem lu {d:D} (O:∀x∈nm d,h x=h' x):dH h d=dH h' d:=by
 cases d<;>try rfl
 rename_i x v s o n;simp only[dH];rw[cP (O x (by simp[nm,gF]))]
theorem FK {d:D} (O:∀x∈nm d,h x=h' x):content h d=content h' d:=by
 cases d<;>try rfl
 rename_i x v s o n;simp only[content];rw[cP (O x (by simp[nm,gF]))]
theorem rU {d:D} (O:∀x∈nm d,h x=h' x):eT h d=eT h' d:=by
 cases d<;>first|rfl|(simp only[eT];rw[lu O])
theorem tj {d:D} (O:∀x∈gF d,h x=h' x):aX h d=aX h' d:=by
 cases d<;>try rfl
 ·simp only[aX];rw[cP (O _ (by simp[gF]))]
 ·simp only[aX];rw[lu (d := .buf _ _ _ _ _) O]
 ·simp only[aX];rw[lu (d := .buf _ _ _ _ _) O]
 ·simp only[aX];rw[mY (O _ (by simp[gF]))]
 ·rename_i x v y;simp only[aX];rw[cP (O x (by simp[gF]))];have U:∀v',gL h y v'=gL h' y v':=fun v'=>mY (O y (by simp[gF]));simp only[U]
theorem sJ:∀ {ds:List D},(∀d∈ds,∀x∈gF d,h x=h' x)->dq h ds=dq h' ds
 | [],_=>rfl
 | d::ds,hx=>by
  simp only[dq];rw[tj (hx d (by simp)),sJ (fun U O=>hx U (by simp[O]))]
theorem th (h:Nat->Option Row) {d:D} (O:∀f U xs,d ≠ .clo f U xs):bQ h d=aX h d:=by cases d<;>first|rfl|exact absurd rfl (O _ _ _)
theorem TP {d:D} (O:∀f U xs,d ≠ .clo f U xs):nm d=gF d:=by cases d<;>first|rfl|exact absurd rfl (O _ _ _)
theorem Xp (d:D):(∃f O xs,d=.clo f O xs)∨∀f O xs,d ≠ .clo f O xs:=by
 cases d<;>first|exact .inl ⟨_,_,_,rfl⟩|exact .inr (fun _ _ _ h=>by cases h)
theorem CO {d:D} (hx:∀x∈nm d,h x=h' x):bQ h d=bQ h' d:=by
 rcases Xp d with⟨f,X,xs,rfl⟩|O
 ·simp only[bQ];rw[sJ (fun d O x U=>hx x (aia.2 ⟨d,O,U⟩))]
 ·rw[TP O]at hx;rw[th h O,th h' O];exact tj hx
theorem iS:∀ {ds:List D},(∀d∈ds,∀x∈nm d,h x=h' x)->bx h ds=bx h' ds
 | [],_=>rfl
 | d::ds,hx=>by
  simp only[bx];rw[CO (hx d (by simp)),iS (fun U O=>hx U (by simp[O]))]
theorem jH {fr:List Nat} (U:∀x∈fr,h x=h' x):iF h fr=iF h' fr:=by
 unfold iF;exact aib fun x O=>by rw[U x O]
theorem qO {d U:D} {fr:List Nat} (O:dH h d=some (U,fr)):∀x∈fr,x∈nm d:=by
 cases d<;>simp only[dH,agL,Prod.mk.injEq]at O<;>try (cases O;done)
 ·obtain⟨_,rfl⟩:=O;simp
 ·obtain⟨_,rfl⟩:=O;simp
 ·obtain⟨_,rfl⟩:=O;simp
 ·obtain⟨_,rfl⟩:=O;simp
 ·split at O
  ·split at O
   ·simp only[agL,Prod.mk.injEq]at O;obtain⟨_,rfl⟩:=O;simp[nm,gF]
   ·cases O
  ·cases O
theorem qN {d : D} {cs : List D} {fr : List Nat} (O : eT h d = some (cs, fr)) : ∀ x ∈ fr, x ∈ nm d := by
  cases d <;> simp only [eT] at O <;> first
    | (simp only [agL, Prod.mk.injEq] at O; obtain ⟨_, rfl⟩ := O; simp; done)
    | (split at O
       · rename_i h1
         simp only [agL, Prod.mk.injEq] at O;obtain ⟨_, rfl⟩ := O;exact qO h1
       · cases O)
theorem Aj {d U:D} {fr:List Nat} (O:aX h d=some (U,fr)):∀x∈fr,x∈gF d:=by
 have one:∀d,(∀f Y xs,d ≠ .clo f Y xs)->aX h d=(match dH h d with|some (U,fr)=>some (canon U,fr)|none=>none)->aX h d=some (U,fr)->∀x∈fr,x∈gF d:=by
  intro d X he O;rw[he]at O;split at O
  ·rename_i h1;simp only[agL,Prod.mk.injEq]at O;obtain⟨_,rfl⟩:=O;intro x Z;have:=qO h1 x Z;cases d<;>first|exact this|exact absurd rfl (X _ _ _)
  ·cases O
 cases d with
 | ptr x v o =>
  simp only[aX]at O;split at O
  ·split at O
   ·simp only[agL,Prod.mk.injEq]at O;obtain⟨_,rfl⟩:=O;simp[gF]
   ·cases O
  ·cases O
 | agg xs=>simp only[aX,agL,Prod.mk.injEq]at O;obtain⟨_,rfl⟩:=O;simp
 | ip xs=>simp only[aX,agL,Prod.mk.injEq]at O;obtain⟨_,rfl⟩:=O;simp
 | fn f=>simp only[aX,agL,Prod.mk.injEq]at O;obtain⟨_,rfl⟩:=O;simp
 | clo f Y xs=>simp[aX,dH]at O
 | box1 x v s o n =>
  simp only[aX]at O;split at O
  ·rename_i h1;simp only[agL,Prod.mk.injEq]at O;obtain⟨_,rfl⟩:=O;exact qO h1
  ·cases O
 | mp x v =>
  simp only[aX]at O;split at O
  ·simp only[agL,Prod.mk.injEq]at O;obtain⟨_,rfl⟩:=O;simp[gF]
  ·cases O
 | mpc ks vs=>simp only[aX,agL,Prod.mk.injEq]at O;obtain⟨_,rfl⟩:=O;simp
 | pm x v y =>
  simp only[aX]at O;split at O
  ·split at O
   ·split at O
    ·split at O
     ·simp only[agL,Prod.mk.injEq]at O;obtain⟨_,rfl⟩:=O;simp[gF]
     ·cases O
    ·cases O
   ·cases O
  ·cases O
 | _=>exact one _ (fun _ _ _ h=>by cases h) rfl O
theorem xu:∀ {ds U:List D} {fr:List Nat},dq h ds=some (U,fr)->∀x∈fr,x∈ds.flatMap gF
 | [],U,fr,O,x,X=>by
  simp only[dq,agL,Prod.mk.injEq]at O;obtain⟨_,rfl⟩:=O;simp at X
 | d::ds,U,fr,O,x,X=>by
  simp only[dq]at O;split at O
  ·rename_i h1;split at O
   ·rename_i h2;simp only[agL,Prod.mk.injEq]at O;obtain⟨_,rfl⟩:=O;rw[aic];rcases ahU.1 X with X|X
    ·exact agQ _ (Aj h1 x X)
    ·exact agR _ (xu h2 x X)
   ·cases O
  ·cases O
theorem LW {d X:D} {fr:List Nat} (O:bQ h d=some (X,fr)):∀x∈fr,x∈nm d:=by
 rcases Xp d with⟨f,Y,xs,rfl⟩|U
 ·simp only[bQ]at O;split at O
  ·rename_i h1;simp only[agL,Prod.mk.injEq]at O;obtain⟨_,rfl⟩:=O;exact xu h1
  ·cases O
 ·rw[TP U];rw[th h U]at O;exact Aj O
theorem gI:∀ {ds U:List D} {fr:List Nat},bx h ds=some (U,fr)->∀x∈fr,∃d∈ds,x∈nm d
 | [],U,fr,O,x,X=>by
  simp only[bx,agL,Prod.mk.injEq]at O;obtain⟨_,rfl⟩:=O;simp at X
 | d::ds,U,fr,O,x,X=>by
  simp only[bx]at O;split at O
  ·rename_i h1;split at O
   ·rename_i h2;simp only[agL,Prod.mk.injEq]at O;obtain⟨_,rfl⟩:=O;rcases ahU.1 X with X|X
    ·exact⟨d,by simp,LW h1 x X⟩
    ·obtain⟨d',Y,Z⟩:=gI h2 x X;exact⟨d',by simp[Y],Z⟩
   ·cases O
  ·cases O
theorem tF {place:Nat->Option (Nat×Nat)} : ∀ {parts:List (Nat×D)} {cells:List D},(∀p∈parts,∀x∈nm p.2,h x=h' x)->iE h place cells parts=iE h' place cells parts
 | [],_,_=>rfl
 | (i,d)::parts,cells,hx=>by
  simp only[iE];rw[rU (hx (i,d) (by simp))];have U:∀O,iE h place O parts=iE h' place O parts:=fun O=>tF (fun p X=>hx p (by simp[X]));simp only[U]
theorem tG {place:Nat->Option (Nat×Nat)} : ∀ {parts:List (Nat×D)} {cells out:List D} {fr:List Nat},iE h place cells parts=some (out,fr)->∀x∈fr,∃p∈parts,x∈nm p.2
 | [],cells,out,fr,O,x,U=>by
  simp only[iE,agL,Prod.mk.injEq]at O;obtain⟨_,rfl⟩:=O;simp at U
 | (i,d)::parts,cells,out,fr,O,x,U=>by
  simp only[iE]at O;split at O
  ·rename_i h1 h2;split at O
   ·split at O
    ·rename_i h3;simp only[agL,Prod.mk.injEq]at O;obtain⟨_,rfl⟩:=O;rcases ahU.1 U with U|U
     ·exact⟨(i,d),by simp,qN h2 x U⟩
     ·obtain⟨p,Y,X⟩:=tG h3 x U;exact⟨p,by simp[Y],X⟩
    ·cases O
   ·cases O
  ·cases O
theorem gC {fr:List Nat} {p:Nat×Option Row} (O:p∈iF h fr):p.1∈fr:=by
 unfold iF at O;obtain⟨x,U,rfl⟩:=agB.1 O;exact U
theorem FO {τ:Ty} {d:D} (O:∀x∈nm d,h x=h' x):dQ τ h d=dQ τ h' d:=by
 cases d<;>try rfl
 simp only[dQ];rw[cP (O _ (by simp[nm,gF]))]
theorem tU {x v:Nat} (O:h x=h' x):kR h x v=kR h' x v:=by
 unfold kR;rw[O]
theorem JN {τ:Ty} {x v y:Nat} (X:h x=h' x) (O:h y=h' y):o0 τ h x v y (kR h x v)=o0 τ h' x v y (kR h' x v):=by
 rw[tU X];cases kR h' x v with
 | none=>rfl
 | some q =>
  obtain⟨r,y',s,n⟩:=q;simp only[o0];rw[O,jH (fr:=[y]) (fun z U=>by simp only[agZ]at U;subst U;exact O)]
theorem Mp {τ:Ty} {d:D} (O:∀x∈nm d,h x=h' x):mS τ h d=mS τ h' d:=by
 have U:=FO (τ:=τ) O;cases d with
 | ptr x v o =>
  simp only[mS];rw[cP (O x (by simp[nm,gF]))];cases live h' x v with
  | none=>rfl
  | some r=>simp only[nD];rw[U]
 | pm x v y =>
  simp only[mS];rw[cP (O x (by simp[nm,gF])),JN (O x (by simp[nm,gF])) (O y (by simp[nm,gF]))]
 | _=>exact U
theorem Dk {τ:Ty} {p d:D} (U:∀x∈nm p,h x=h' x) (hx:∀x∈nm d,h x=h' x):di τ h p d=di τ h' p d:=by
 cases p<;>try rfl
 simp only[di];rw[cP (U _ (by simp[nm,gF])),rU hx];cases live h' _ _ with
 | none=>rfl
 | some r =>
  cases X:eT h' d with
  | none=>rfl
  | some q =>
   obtain⟨cs,fr⟩:=q;simp only;rw[jH (fr:=fr) (fun x O=>hx x (qN X x O))]
theorem JQ {τ:Ty} {p d:D} (O:∀x∈nm p,h x=h' x) (U:∀x∈nm d,h x=h' x):dy τ h p d=dy τ h' p d:=by
 have X:=Dk (τ:=τ) O U;cases d with
 | box1 y Y s Z n =>
  cases p with
  | ptr x v o =>
   simp only[dy];rw[cP (O _ (by simp[nm,gF]))]
  | pm x v k =>
   simp only[dy];rw[cP (O x (by simp[nm,gF])),cP (U y (by simp[nm,gF]))]
  | _=>rfl
 | mp y' v' =>
  cases p with
  | pm x v y =>
   simp only[dy];rw[cP (O x (by simp[nm,gF])),mY (O y (by simp[nm,gF]))]
  | _=>rfl
 | _=>exact X
theorem AS {d:D} (O:∀x∈nm d,h x=h' x):mapOf h d=mapOf h' d:=by
 cases d<;>try rfl
 simp only[mapOf];rw[mY (O _ (by simp[nm,gF]))]
theorem Bt {τ:Ty} {m i:D} {ok:Bool} (O:∀x∈nm m,h x=h' x):gm T τ h m i ok=gm T τ h' m i ok:=by
 unfold gm;rw[AS O]
theorem R0 {d:D} (O:∀x∈nm d,h x=h' x):sY h d=sY h' d:=by
 cases d<;>first|rfl|(simp only[sY];rw[lu O])
theorem UN {d U : D} {fr : List Nat} (O : sY h d = some (U, fr)) : ∀ x ∈ fr, x ∈ nm d := by
  cases d <;> simp only [sY] at O <;> first
    | (simp only [agL, Prod.mk.injEq] at O; obtain ⟨_, rfl⟩ := O; simp; done)
    | (split at O
       · rename_i h1
         simp only [agL, Prod.mk.injEq] at O;obtain ⟨_, rfl⟩ := O;exact qO h1
       · cases O)
theorem pb {τ:Ty} {m i d:D} (U:∀x∈nm m,h x=h' x) (hd:∀x∈nm d,h x=h' x):cN T τ h m i d=cN T τ h' m i d:=by
 unfold cN;rw[R0 hd];split
 ·rename_i _ _ y v n Z fr _ _ X;have O:=U y (by simp[nm,gF]);rw[O,mY O];rw[jH (fun z Y=>hd z (UN X z Y))]
 ·rfl
theorem JP {d:D} (O:∀x∈nm d,h x=h' x):jr h d=jr h' d:=by
 cases d<;>try rfl
 simp only[jr];rw[ju (O _ (by simp[nm,gF]))]
theorem Di {τ:Ty} {i:Nat} {d:D} (O:∀x∈nm d,h x=h' x):ef T τ h i d=ef T τ h' i d:=by
 cases d<;>try rfl
 ·simp only[ef];rw[ju (O _ (by simp[nm,gF]))]
 ·simp only[ef];rw[tU (O _ (by simp[nm,gF]))]
theorem wz {τ:Ty} {d i:D} (O:∀x∈nm d,h x=h' x):bN T τ h d i=bN T τ h' d i:=by
 cases d<;>cases i<;>try rfl
 ·simp only[bN];rw[cP (O _ (by simp[nm,gF]))]
 ·simp only[bN];rw[ju (O _ (by simp[nm,gF]))]
theorem Dj {τ:Ty} {d:D} {O U X:Option D} (Y:∀x∈nm d,h x=h' x):cV T τ h d O U X=cV T τ h' d O U X:=by
 cases d<;>try rfl
 simp only[cV];rw[cP (Y _ (by simp[nm,gF]))]
theorem Df {τ:Ty} {parts:List (Nat×D)} (X:∀p∈parts,∀x∈nm p.2,h x=h' x):fc T τ h parts=fc T τ h' parts:=by
 unfold fc;have h1:∀pl cells,iE h pl cells parts=iE h' pl cells parts:=fun pl cells=>tF X;split
 ·split
  ·rw[h1];split
   ·rename_i Y;rw[jH (fun x O=>by obtain⟨p,Z,U⟩:=tG Y x O;exact X p Z x U)]
   ·rfl
  ·rfl
 ·rfl
theorem JL {q:Nat->Bool} {τ:Ty} {dst:Option Nat} {parts:List (Nat×D)} (O:∀p∈parts,∀x∈nm p.2,h x=h' x):oW q T τ h dst parts=oW q T τ h' dst parts:=by
 have U:=Df (T:=T) (τ:=τ) O;unfold oW;split
 ·split
  ·exact U
  ·split
   ·rename_i x v s o n _;have e:alive h (.buf x v s o n)=alive h' (.buf x v s o n):=by
     simp only[alive];rw[ju (O (0,.buf x v s o n) (by simp) x (by simp[nm,gF]))]
    rw[e]
   ·rename_i x v s o n _;have e:alive h (.buf x v s o n)=alive h' (.buf x v s o n):=by
     simp only[alive];rw[ju (O (0,.box1 x v s o n) (by simp) x (by simp[nm,gF]))]
    rw[e]
   ·rw[U]
 ·exact U
theorem vD {τ:Ty} {d len:Nat} {parts:List (Nat×D)} (X:∀p∈parts,∀x∈nm p.2,h x=h' x):ee T τ h e d len parts=ee T τ h' e d len parts:=by
 unfold ee;have h1:∀pl cells,iE h pl cells parts=iE h' pl cells parts:=fun pl cells=>tF X;split
 ·split
  ·split
   ·rw[h1];split
    ·rename_i Y;rw[jH (fun x O=>by obtain⟨p,Z,U⟩:=tG Y x O;exact X p Z x U)]
    ·rfl
   ·rfl
  ·rfl
 ·rfl
theorem Bq {τ:Ty} {d:Nat} {s x:D} (hs:∀y∈nm s,h y=h' y) (O:∀y∈nm x,h y=h' y):iW T τ h e d s x=iW T τ h' e d s x:=by
 unfold iW;rw[FK O];cases s<;>try rfl
 simp only;rw[cP (hs _ (by simp[nm,gF]))]
theorem K7 {d:D} (O:∀x∈nm d,h x=h' x):alive h d=alive h' d:=by
 cases d<;>try rfl
 all_goals
  simp only[alive];rw[ju (O _ (by simp[nm,gF]))]
theorem yW {dst:Option Nat} {b:Builtin} {O:List Nat} {args:List D} (U:∀d∈args,∀x∈nm d,h x=h' x):cB T h e dst b O args=cB T h' e dst b O args:=by
 unfold cB;split
 ·rw[K7 (U _ (by simp)),AS (U _ (by simp))]
 ·split
  ·split
   ·rw[Bq (U _ (by simp)) (U _ (by simp))]
   ·rfl
  ·rfl
 ·rfl
 ·rfl
 ·rfl
theorem Ad {dst:Option Nat} {g:Nat} {args:List D} (X:∀d∈args,∀x∈nm d,h x=h' x):td Γ h e dst g args=td Γ h' e dst g args:=by
 unfold td;rw[iS X];split
 ·rename_i Y;rw[jH (fun x O=>by obtain⟨d,Z,U⟩:=gI Y x O;exact X d Z x U)]
 ·rfl
theorem te {dst:Option Nat} {g x v:Nat} {d0:D} {args:List D} (Y:h x=h' x) (X:∀d∈args,∀x∈nm d,h x=h' x):oU Γ h e dst g x v d0 args=oU Γ h' e dst g x v d0 args:=by
 unfold oU;rw[NL Y,iS X];split
 ·split
  ·split
   ·rename_i Z;rw[jH (fun x O=>by obtain⟨d,hd,U⟩:=gI Z x O;exact X d hd x U)]
   ·rfl
  ·rfl
 ·rfl
theorem Lp {dst:Option Nat} {p:Nat×Nat×Nat} {args:List D} (O:∀d∈args,∀x∈nm d,h x=h' x):sI h e dst p args=sI h' e dst p args:=by
 unfold sI;split
 ·rw[cP (O _ aid _ (by simp[nm,gF])),cP (O _ (aie _ (aie _ aid)) _ (by simp[nm,gF]))]
 ·rfl
theorem Lk {p:Grow} {args:List D} (O:∀d∈args,∀x∈nm d,h x=h' x):sH h p args=sH h' p args:=by
 unfold sH;split
 ·rw[tU (O _ aid _ (by simp[nm,gF])),O _ aid _ (show _∈nm (D.pm _ _ _) by simp only[nm,gF];exact aie _ aid)]
 ·rfl
theorem FN {dst:Option Nat} {f:D} {args:List D} (Z:∀x∈nm f,h x=h' x) (hx:∀d∈args,∀x∈nm d,h x=h' x):ij Γ h e dst f args=ij Γ h' e dst f args:=by
 cases f<;>try rfl
 ·rename_i g;simp only[ij];split
  ·exact Lp hx
  split
  ·exact Lk hx
  split
  ·split
   ·exact te (hx _ aid _ (by simp[nm,gF])) (fun d O=>hx d (aie _ O))
   ·exact te (hx _ aid _ (by simp[nm,gF])) (fun d O=>hx d (aie _ O))
   ·exact te (hx _ aid _ (by simp[nm,gF])) (fun d O=>hx d (aie _ O))
   ·rfl
  ·exact Ad hx
 ·rename_i g kk caps;simp only[ij];split
  ·rename_i X;rw[agN]at X;have U:∀d∈caps,∀x∈nm d,h x=h' x:=fun d O x Y=>by
    have:=X d O;rw[TP (fun f kk xs he=>by rw[he]at this;cases this)]at Y;exact Z x (aia.2 ⟨d,O,Y⟩)
   refine Ad fun d O =>?_;rcases ahU.1 O with O|O
   ·exact U d (ahm O)
   ·rcases ahU.1 O with O|O
    ·exact hx d O
    ·exact U d (ahk O)
  ·rfl
theorem sK {ty:Nat} {dst:Option Nat} {x:D} (O:∀y∈nm x,h y=h' y):bS T ty e dst h x=bS T ty e dst h' x:=by
 unfold bS;split
 ·rw[cP (O _ (by simp[nm,gF])),ju (O _ (by simp[nm,gF]))]
 ·rfl
 ·rfl
theorem JD {d:D} (U:∀x∈nm d,h x=h' x):oV h d=oV h' d:=by
 by_cases O:∀xs,d ≠ .agg xs
 ·rw[uV O,uV O];exact lu U
 ·simp only[ne_eq,Classical.not_forall,Classical.not_not]at O;obtain⟨xs,rfl⟩:=O;rfl
theorem GR {d X:D} {fr:List Nat} (O:oV h d=some (X,fr)):∀x∈fr,x∈nm d:=by
 by_cases U:∀xs,d ≠ .agg xs
 ·rw[uV U]at O;exact qO O
 ·simp only[ne_eq,Classical.not_forall,Classical.not_not]at U;obtain⟨xs,rfl⟩:=U;simp only[oV,agL,Prod.mk.injEq]at O;obtain⟨_,rfl⟩:=O;simp
theorem JK {q:Nat->Bool} {ty:Nat} {dst:Option Nat} {x:D} (hx:∀y∈nm x,h y=h' y):qv T q ty e dst h x=qv T q ty e dst h' x:=by
 unfold qv im;rw[JD hx];split
 ·rw[sK hx];split
  ·rfl
  ·split
   ·rename_i O;rw[jH fun y U=>hx y (GR O y U)]
   ·rfl
 ·exact sK hx
theorem Vg {vs : Operand -> D} (hx : ∀ x ∈ gu o vs, h x = h' x) : lS T Γ e o vs h = lS T Γ e o vs h' := by
  have key : ∀ y, y ∈ o.op.operands.toList -> (∀ a b c, o.op ≠ .pick a b c) -> (∀ a, o.op ≠ .move a) -> (∀ a b c, o.op ≠ .makeFunc a b c) -> ∀ x ∈ nm (vs y), h x = h' x := by
    intro y X h1 h2 h3 x Y;apply hx x;unfold gu;split
    · rename_i U; exact absurd U (h2 _)
    · rename_i U; exact absurd U (h1 _ _ _)
    · rename_i U; exact absurd U (h3 _ _ _)
    · exact agQ _ (aia.2 ⟨y, X, Y⟩)
  unfold lS;cases U : o.op <;> (try simp only) <;> rw [U] at key <;> try rfl
  case assign x => exact JK (key x (by simp [Op.operands]) (by simp) (by simp) (by simp))
  case box ty x => rw [rU (key x (by simp [Op.operands]) (by simp) (by simp) (by simp))]
                   split
                   · rename_i Z
                     rw [jH (fun z hz => key x (by simp [Op.operands]) (by simp) (by simp) (by simp) z (qN Z z hz))]
                   · rfl
  case load ty x => simp only [Mp (key x (by simp [Op.operands]) (by simp) (by simp) (by simp))]
  case store ty x y => simp only [JQ (key x (by simp [Op.operands]) (by simp) (by simp) (by simp)) (key y (by simp [Op.operands]) (by simp) (by simp) (by simp))]
  case nilCheck x => exact JP (key x (by simp [Op.operands]) (by simp) (by simp) (by simp))
  case fieldAddr ty x i => simp only [Di (key x (by simp [Op.operands]) (by simp) (by simp) (by simp))]
  case makeMap ty res => cases res <;> rfl
  case lookup ty m i ok => simp only [Bt (key m (by simp [Op.operands]) (by simp) (by simp) (by simp))]
  case mapUpdate ty m i x => simp only [pb (key m (by simp [Op.operands]) (by simp) (by simp) (by simp)) (key x (by simp [Op.operands]) (by simp) (by simp) (by simp))]
  case insert ty m i x => simp only [pb (key m (by simp [Op.operands]) (by simp) (by simp) (by simp)) (key x (by simp [Op.operands]) (by simp) (by simp) (by simp))]
  case indexAddr ty x i => simp only [wz (key x (by simp [Op.operands]) (by simp) (by simp) (by simp))]
  case slice ty x lo hi mx => simp only [Dj (key x (by simp [Op.operands]) (by simp) (by simp) (by simp))]
  case build ty parts =>
    have : ∀ p ∈ parts.toList.map (fun p => (p.1, vs p.2)), ∀ x ∈ nm p.2, h x = h' x := by
      intro p hp x O;obtain ⟨q, hq, rfl⟩ := agB.1 hp;exact key q.2 (by simp only [Op.operands, List.toList_toArray]; exact agB.2 ⟨q, hq, rfl⟩) (by simp) (by simp) (by simp) x O
    simp only [JL this]
  case buildSlice ty len parts =>
    have : ∀ p ∈ parts.toList.map (fun p => (p.1, vs p.2)), ∀ x ∈ nm p.2, h x = h' x := by
      intro p hp x O;obtain ⟨q, hq, rfl⟩ := agB.1 hp;exact key q.2 (by simp only [Op.operands, List.toList_toArray]; exact agB.2 ⟨q, hq, rfl⟩) (by simp) (by simp) (by simp) x O
    simp only [vD this]
  case call c =>
    have : ∀ d ∈ c.args.toList.map vs, ∀ x ∈ nm d, h x = h' x := by
      intro d hd x O;obtain ⟨y, X, rfl⟩ := agB.1 hd;exact key y (by simp only [Op.operands, Call.operands, ahZ]; exact agR _ X) (by simp) (by simp) (by simp) x O
    cases Z : c.callee with
    | value f => exact FN (key f (by simp [Op.operands, Call.operands, Z]) (by simp) (by simp) (by simp)) this
    | builtin b => exact yW this
    | invoke _ _ => rfl
theorem acQ {vs O:Operand->D} (hx:∀y∈o.op.operands.toList,vs y=O y):lS T Γ e o vs h=lS T Γ e o O h∧gu o vs=gu o O:=by
 refine⟨?_,?_⟩
 ·unfold lS;cases Z:o.op<;>(try simp only)<;>rw[Z]at hx<;>try rfl
  case move x=>rw[hx x (by simp[Op.operands])]
  case assign x=>rw[hx x (by simp[Op.operands])]
  case pick a b c=>rw[hx a (by simp[Op.operands]),hx b (by simp[Op.operands]),hx c (by simp[Op.operands])]
  case box ty x=>rw[hx x (by simp[Op.operands])]
  case load ty x=>rw[hx x (by simp[Op.operands])]
  case store ty x y=>rw[hx x (by simp[Op.operands]),hx y (by simp[Op.operands])]
  case nilCheck x=>rw[hx x (by simp[Op.operands])]
  case fieldAddr ty x i=>rw[hx x (by simp[Op.operands])]
  case field ty x i=>rw[hx x (by simp[Op.operands])]
  case makeMap ty res=>cases res<;>rfl
  case lookup ty m i ok=>rw[hx m (by simp[Op.operands]),hx i (by simp[Op.operands])]
  case mapUpdate ty m i x=>rw[hx m (by simp[Op.operands]),hx i (by simp[Op.operands]),hx x (by simp[Op.operands])]
  case insert ty m i x=>rw[hx m (by simp[Op.operands]),hx i (by simp[Op.operands]),hx x (by simp[Op.operands])]
  case indexAddr ty x i=>rw[hx x (by simp[Op.operands]),hx i (by simp[Op.operands])]
  case index ty x i=>rw[hx x (by simp[Op.operands]),hx i (by simp[Op.operands])]
  case slice ty x lo hi mx =>
   rw[hx x (by simp[Op.operands])];have e1:lo.map vs=lo.map O:=by cases lo with|none=>rfl|some y=>simp only[Option.map_some];rw[hx y (by simp[Op.operands])]
   have e2:hi.map vs=hi.map O:=by cases hi with|none=>rfl|some y=>simp only[Option.map_some];rw[hx y (by simp[Op.operands])]
   have e3:mx.map vs=mx.map O:=by cases mx with|none=>rfl|some y=>simp only[Option.map_some];rw[hx y (by simp[Op.operands])]
   rw[e1,e2,e3]
  case build ty parts =>
   have:parts.toList.map (fun p=>(p.1,vs p.2))=parts.toList.map (fun p=>(p.1,O p.2)):=aib fun p hp=>by rw[hx p.2 (by simp only[Op.operands,List.toList_toArray];exact agB.2 ⟨p,hp,rfl⟩)]
   rw[this]
  case buildSlice ty len parts =>
   have:parts.toList.map (fun p=>(p.1,vs p.2))=parts.toList.map (fun p=>(p.1,O p.2)):=aib fun p hp=>by rw[hx p.2 (by simp only[Op.operands,List.toList_toArray];exact agB.2 ⟨p,hp,rfl⟩)]
   rw[this]
  case makeSlice ty l c=>rw[hx l (by simp[Op.operands]),hx c (by simp[Op.operands])]
  case binOp op ty x y ty'=>rw[hx x (by simp[Op.operands]),hx y (by simp[Op.operands])]
  case unOp op ty x=>rw[hx x (by simp[Op.operands])]
  case convert s d x=>rw[hx x (by simp[Op.operands])]
  case makeFunc fn first caps =>
   have:caps.toList.map vs=caps.toList.map O:=aib fun y U=>hx y (by simp only[Op.operands,ahZ];exact agR _ U);have X:first.toList.map vs=first.toList.map O:=aib fun y U=>hx y (by simp only[Op.operands,ahZ];exact agQ _ U)
   rw[this,X]
  case extract x i=>rw[hx x (by simp[Op.operands])]
  case call c =>
   have:c.args.toList.map vs=c.args.toList.map O:=aib fun y U=>hx y (by simp only[Op.operands,Call.operands,ahZ];exact agR _ U);cases hc:c.callee with
   | value f=>simp only;rw[this,hx f (by simp[Op.operands,Call.operands,hc])]
   | builtin b=>simp only;rw[this]
   | invoke _ _=>rfl
 ·have Y:o.op.operands.toList.flatMap (fun y=>nm (vs y))=o.op.operands.toList.flatMap (fun y=>nm (O y)):=by
   rw[List.flatMap_def,List.flatMap_def];congr 1;exact aib fun y U=>by rw[hx y U]
  unfold gu;cases Z:o.op<;>simp only<;>rw[Z]at Y<;>rw[Y]
end
section
variable {T:Nat->Option Ty} {h h':Nat->Option Row} {e:Nat} {o:Oper} {Γ:Env}
theorem Br {τ:Ty} {d:Nat} {s x:D} {E:bF} (O:iW T τ h e d s x=some E):∀p∈E.hw,p.1=d∨p.1∈nm s:=by
 unfold iW at O;split at O
 ·split at O
  ·split at O
   ·split at O
    ·split at O
     ·split at O
      ·simp only[agL]at O;subst O;intro p U;simp at U
      ·simp only[agL]at O;subst O;intro p U;simp at U;exact .inl (by rw[U])
     ·cases O
    ·split at O
     ·split at O
      ·simp only[agL]at O;subst O;intro p U;simp only[agJ,ahL,or_false]at U;rcases U with rfl|rfl
       ·exact .inr (by simp[nm,gF])
       ·exact .inl rfl
      ·cases O
     ·cases O
    ·cases O
   ·cases O
  ·cases O
 ·cases O
theorem Ae {dst:Option Nat} {g:Nat} {args:List D} {E:bF} (O:td Γ h e dst g args=some E):∀p∈E.hw,dst=some p.1∨∃d∈args,p.1∈nm d:=by
 unfold td at O;split at O
 ·rename_i X;split at O
  ·simp only[agL]at O;subst O;intro p U;simp only at U;split at U
   ·simp at U
   ·exact .inr (gI X _ (gC U))
  ·split at O
   ·split at O
    ·simp only[agL]at O;subst O;intro p U;simp only[ahU,agZ]at U;rcases U with U|rfl
     ·split at U
      ·simp at U
      ·exact .inr (gI X _ (gC U))
     ·exact .inl rfl
    ·cases O
   ·cases O
  ·cases O
 ·cases O
theorem Ll {p:Grow} {args:List D} {E:bF} (O:sH h p args=some E):∀q∈E.hw,∃d∈args,q.1∈nm d:=by
 unfold sH at O;split at O<;>try (cases O;done)
 split at O<;>try (cases O;done)
 split at O<;>try (cases O;done)
 rename_i U;obtain⟨rfl,_⟩:=U;split at O<;>try (cases O;done)
 simp only[agL]at O;subst O;intro q X;simp only[agJ,ahL,or_false]at X;rcases X with rfl|rfl
 ·exact⟨_,aid,by simp[nm,gF]⟩
 ·exact⟨_,aid,by simp[nm,gF]⟩
theorem Lq {dst:Option Nat} {p:Nat×Nat×Nat} {args:List D} {E:bF} (O:sI h e dst p args=some E):∀q∈E.hw,dst=some q.1∨∃d∈args,q.1∈nm d:=by
 unfold sI at O;split at O<;>try (cases O;done)
 split at O<;>try (cases O;done)
 split at O<;>try (cases O;done)
 simp only[agL]at O;subst O;intro q U;simp only[agJ,ahL,or_false]at U;rcases U with rfl|rfl|rfl
 ·exact .inr ⟨_,aie _ (aie _ aid),by simp[nm,gF]⟩
 ·exact .inr ⟨_,aid,by simp[nm,gF]⟩
 ·exact .inl rfl
theorem tf {dst:Option Nat} {g x v:Nat} {d0:D} {args:List D} {E:bF} (O:oU Γ h e dst g x v d0 args=some E):∀p∈E.hw,dst=some p.1∨p.1=x∨∃d∈args,p.1∈nm d:=by
 unfold oU at O;split at O<;>try (cases O;done)
 split at O<;>try (cases O;done)
 split at O<;>try (cases O;done)
 rename_i X;split at O<;>try (cases O;done)
 split at O<;>try (cases O;done)
 ·simp only[agL]at O;subst O;intro p U;simp only[ahU,agZ]at U;rcases U with U|rfl
  ·exact .inr (.inr (gI X _ (gC U)))
  ·exact .inr (.inl rfl)
 ·simp only[agL]at O;subst O;intro p U;simp only[ahU,agZ]at U;rcases U with U|rfl
  ·exact .inr (.inr (gI X _ (gC U)))
  ·exact .inr (.inl rfl)
 ·split at O<;>try (cases O;done)
  split at O<;>try (cases O;done)
  simp only[agL]at O;subst O;intro p U;simp only[ahU,agJ,ahL,or_false]at U;rcases U with U|rfl|rfl
  ·exact .inr (.inr (gI X _ (gC U)))
  ·exact .inr (.inl rfl)
  ·exact .inl rfl
theorem wA {τ:Ty} {d:D} {E:bF} (O:dQ τ h d=some E):E.hw=[]:=by
 cases d<;>simp only[dQ]at O<;>try (cases O;done)
 all_goals (repeat' split at O)<;>first|(cases O;done)|(simp only[agL]at O;subst O;rfl)
theorem XV {τ:Ty} {d:D} {E:bF} (O:mS τ h d=some E):∀p∈E.hw,p.1∈nm d:=by
 have none_:E.hw=[]->∀p∈E.hw,p.1∈nm d:=fun he p U=>by rw[he]at U;simp at U
 have X:dQ τ h d=some E->∀p∈E.hw,p.1∈nm d:=fun he=>none_ (wA he);cases d with
 | ptr x v o =>
  simp only[mS]at O;cases X:live h x v with
  | none=>rw[X]at O;cases O
  | some r =>
   rw[X]at O;simp only[nD]at O;split at O
   ·split at O
    ·split at O
     ·exact none_ (by simp only[agL]at O;subst O;rfl)
     ·exact none_ (wA O)
    ·cases O
   ·exact none_ (wA O)
 | pm x v y =>
  simp only[mS]at O;split at O
  ·split at O
   ·split at O
    ·exact none_ (by simp only[agL]at O;subst O;rfl)
    ·cases O
   ·cases O
  ·unfold o0 at O;split at O
   ·split at O
    ·split at O
     ·simp only[agL]at O;subst O;intro p U;have:=gC U;simp only[agZ]at this;rw[this];simp[nm,gF]
     ·cases O
    ·cases O
   ·cases O
 | _=>exact X O
theorem Dl {τ:Ty} {q d:D} {E:bF} (O:di τ h q d=some E):∀p∈E.hw,p.1∈nm d∨p.1∈nm q:=by
 cases q<;>simp only[di]at O<;>try (cases O;done)
 split at O
 ·split at O
  ·rename_i X;split at O
   ·simp only[agL]at O;subst O;intro p U;rcases ahU.1 U with U|U
    ·exact .inl (qN X _ (gC U))
    ·simp only[agZ]at U;subst U;exact .inr (by simp[nm,gF])
   ·cases O
  ·cases O
 ·cases O
theorem JR {τ:Ty} {q d:D} {E:bF} (O:dy τ h q d=some E):∀p∈E.hw,p.1∈nm d∨p.1∈nm q:=by
 have X:di τ h q d=some E->∀p∈E.hw,p.1∈nm d∨p.1∈nm q:=Dl;cases d with
 | box1 y Y s Z n =>
  cases q with
  | ptr x v o =>
   simp only[dy]at O;split at O
   ·split at O
    ·simp only[agL]at O;subst O;intro p U;simp only[agZ]at U;subst U;exact .inr (by simp[nm,gF])
    ·cases O
   ·cases O
  | pm x v k =>
   simp only[dy]at O;split at O
   ·split at O
    ·simp only[agL]at O;subst O;intro p U;simp only[agJ,ahL,or_false]at U;rcases U with rfl|rfl|rfl
     ·exact .inl (by simp[nm,gF])
     ·exact .inr (by simp[nm,gF])
     ·exact .inr (by simp[nm,gF])
    ·cases O
   ·cases O
  | _=>simp[dy]at O
 | mp y' v' =>
  cases q with
  | pm x v y =>
   simp only[dy]at O;split at O
   ·split at O
    ·simp only[agL]at O;subst O;intro p U;simp only[agZ]at U;subst U;exact .inr (by simp[nm,gF])
    ·cases O
   ·cases O
  | _=>simp[dy]at O
 | _=>exact X O
theorem JO {τ:Ty} {m i:D} {ok:Bool} {E:bF} (O:gm T τ h m i ok=some E):E.hw=[]:=by
 unfold gm at O;split at O
 ·split at O
  ·split at O
   ·simp only[agL]at O;subst O;rfl
   ·cases O
  ·cases O
 ·cases O
theorem pc {τ:Ty} {m i d:D} {E:bF} (O:cN T τ h m i d=some E):∀p∈E.hw,p.1∈nm d∨p.1∈nm m:=by
 unfold cN at O;split at O
 ·rename_i X;split at O
  ·split at O
   ·split at O
    ·simp only[agL]at O;subst O;intro p U;rcases ahU.1 U with U|U
     ·exact .inl (UN X _ (gC U))
     ·simp only[agZ]at U;subst U;exact .inr (by simp[nm,gF])
    ·cases O
   ·cases O
  ·cases O
 ·cases O
theorem oX {τ:Ty} {parts:List (Nat×D)} {E:bF} (O:fc T τ h parts=some E):∀p∈E.hw,∃q∈parts,p.1∈nm q.2:=by
 unfold fc at O;split at O
 ·split at O
  ·split at O
   ·rename_i U;simp only[agL]at O;subst O;intro p X;exact tG U _ (gC X)
   ·cases O
  ·cases O
 ·cases O
theorem JM {q:Nat->Bool} {τ:Ty} {dst:Option Nat} {parts:List (Nat×D)} {E:bF} (O:oW q T τ h dst parts=some E):∀p∈E.hw,∃q∈parts,p.1∈nm q.2:=by
 unfold oW at O;split at O
 ·split at O
  ·exact oX O
  ·split at O
   ·split at O
    ·simp only[agL]at O;subst O;intro p U;simp at U
    ·cases O
   ·split at O
    ·simp only[agL]at O;subst O;intro p U;simp at U
    ·cases O
   ·unfold cE at O;split at O
    ·rename_i X;simp only[agL]at O;subst O;have Y:=oX X;exact Y
    ·cases O
 ·exact oX O
theorem Hj {vs:Operand->D} {E:bF} (O:lS T Γ e o vs h=some E):∀p∈E.hw,p.1∈gu o vs:=by
 have key:∀y,y∈o.op.operands.toList->(∀a b c,o.op ≠ .pick a b c)->(∀a,o.op ≠ .move a)->(∀a b c,o.op ≠ .makeFunc a b c)->∀x∈nm (vs y),x∈gu o vs:=by
  intro y hy h1 h2 h3 x ag;unfold gu;split
  ·rename_i ho;exact absurd ho (h2 _)
  ·rename_i ho;exact absurd ho (h1 _ _ _)
  ·rename_i ho;exact absurd ho (h3 _ _ _)
  ·exact agQ _ (aia.2 ⟨y,hy,ag⟩)
 have keyd:∀d,o.dst=some d->(∀a b c,o.op ≠ .pick a b c)->(∀a,o.op ≠ .move a)->(∀a b c,o.op ≠ .makeFunc a b c)->d∈gu o vs:=by
  intro d X h1 h2 h3;unfold gu;split
  ·rename_i ho;exact absurd ho (h2 _)
  ·rename_i ho;exact absurd ho (h1 _ _ _)
  ·rename_i ho;exact absurd ho (h3 _ _ _)
  ·exact agR _ (by rw[X];simp)
 have none_:∀(d:D),(some ⟨d,[]⟩:Option bF)=some E->∀p∈E.hw,p.1∈gu o vs:=by
  intro d he p U;simp only[agL]at he;subst he;simp at U
 unfold lS at O;cases ho:o.op<;>rw[ho]at O key keyd<;>simp only at O<;>try (cases O;done)
 case move x=>exact none_ _ O
 case assign x =>
  have hold:bS T o.type e o.dst h (vs x)=some E->∀p∈E.hw,p.1∈gu o vs:=by
   intro O;unfold bS at O;split at O
   ·rename_i y v s c n Y;split at O
    ·rename_i X _;split at O
     ·exact none_ _ O
     ·simp only[agL]at O;subst O;intro p U;simp only[agJ,ahL,or_false]at U;rcases U with rfl|rfl
      ·exact key x (by simp[Op.operands]) (by simp) (by simp) (by simp) _ (by rw[Y];simp[nm,gF])
      ·exact keyd _ X (by simp) (by simp) (by simp)
    ·split at O
     ·exact none_ _ O
     ·exact none_ _ O
   ·split at O
    ·rename_i X _;split at O
     ·split at O
      ·simp only[agL]at O;subst O;intro p U;simp only[agZ]at U;subst U;exact keyd _ X (by simp) (by simp) (by simp)
      ·cases O
     ·cases O
    ·cases O
   ·exact none_ _ O
  unfold qv at O;split at O
  ·rename_i d X;split at O
   ·rw[<- X]at O;exact hold O
   ·unfold im at O;split at O
    ·rename_i d' fr hc;simp only[agL]at O;subst O;intro p U;exact key x (by simp[Op.operands]) (by simp) (by simp) (by simp) _ (GR hc _ (gC U))
    ·cases O
  ·rename_i X;rw[<- X]at O;exact hold O
 case pick a b c =>
  split at O
  ·exact none_ _ O
  ·exact none_ _ O
  ·cases O
 case alloc ty =>
  split at O
  ·rename_i X;split at O
   ·simp only[agL]at O;subst O;intro p U;simp only[agZ]at U;subst U;exact keyd _ X (by simp) (by simp) (by simp)
   ·cases O
  ·cases O
 case box ty x =>
  split at O
  ·rename_i X hc;split at O
   ·simp only[agL]at O;subst O;intro p U;rcases ahU.1 U with U|U
    ·exact key x (by simp[Op.operands]) (by simp) (by simp) (by simp) _ (qN hc _ (gC U))
    ·simp only[agZ]at U;subst U;exact keyd _ X (by simp) (by simp) (by simp)
   ·cases O
  ·cases O
 case load ty x =>
  split at O
  ·intro p U;exact key x (by simp[Op.operands]) (by simp) (by simp) (by simp) _ (XV O p U)
  ·cases O
 case store ty x y =>
  split at O
  ·intro p U;rcases JR O p U with hh|hh
   ·exact key y (by simp[Op.operands]) (by simp) (by simp) (by simp) _ hh
   ·exact key x (by simp[Op.operands]) (by simp) (by simp) (by simp) _ hh
  ·cases O
 case makeMap ty res =>
  cases res with
  | some _=>cases O
  | none =>
   simp only at O;split at O
   ·rename_i X;unfold ml at O;split at O
    ·split at O
     ·cases O
     simp only[agL]at O;subst O;intro p U;simp only[agZ]at U;subst U;exact keyd _ X (by simp) (by simp) (by simp)
    ·cases O
   ·cases O
 case lookup ty m i ok =>
  split at O
  ·intro p U;rw[JO O]at U;simp at U
  ·cases O
 case mapUpdate ty m i x =>
  split at O
  ·intro p U;rcases pc O p U with hh|hh
   ·exact key x (by simp[Op.operands]) (by simp) (by simp) (by simp) _ hh
   ·exact key m (by simp[Op.operands]) (by simp) (by simp) (by simp) _ hh
  ·cases O
 case insert ty m i x =>
  split at O
  ·intro p U;rcases pc O p U with hh|hh
   ·exact key x (by simp[Op.operands]) (by simp) (by simp) (by simp) _ hh
   ·exact key m (by simp[Op.operands]) (by simp) (by simp) (by simp) _ hh
  ·cases O
 case nilCheck x =>
  cases Y:vs x<;>rw[Y]at O<;>simp only[jr]at O<;>try (cases O;done)
  ·split at O
   ·exact none_ _ O
   ·cases O
  ·exact none_ _ O
 case fieldAddr ty x i =>
  split at O
  ·cases Y:vs x<;>rw[Y]at O<;>simp only[ef]at O<;>try (cases O;done)
   ·split at O
    ·split at O
     ·split at O
      ·split at O
       ·cases O
       ·exact none_ _ O
      ·cases O
     ·cases O
    ·cases O
   ·split at O
    ·split at O
     ·split at O
      ·split at O
       ·cases O
       ·exact none_ _ O
      ·cases O
     ·cases O
    ·cases O
   ·split at O
    ·split at O
     ·split at O
      ·split at O
       ·cases O
       ·exact none_ _ O
      ·cases O
     ·cases O
    ·cases O
  ·cases O
 case field ty x i =>
  split at O
  ·cases Y:vs x<;>rw[Y]at O<;>simp only[lv]at O<;>try (cases O;done)
   split at O
   ·split at O
    ·split at O
     ·split at O
      ·exact none_ _ O
      ·cases O
     ·cases O
    ·cases O
   ·cases O
  ·cases O
 case indexAddr ty x i =>
  split at O
  ·cases Y:vs x<;>cases hi:vs i<;>rw[Y,hi]at O<;>simp only[bN]at O<;>try (cases O;done)
   all_goals
    split at O
    ·split at O
     ·split at O
      ·exact none_ _ O
      ·cases O
     ·cases O
    ·cases O
  ·cases O
 case index ty x i =>
  split at O
  ·cases Y:vs x<;>cases hi:vs i<;>rw[Y,hi]at O<;>simp only[gr]at O<;>try (cases O;done)
   ·split at O
    ·split at O
     ·split at O
      ·exact none_ _ O
      ·cases O
     ·cases O
    ·cases O
   ·split at O
    ·split at O
     ·split at O
      ·split at O
       ·exact none_ _ O
       ·cases O
      ·cases O
     ·cases O
    ·cases O
  ·cases O
 case slice ty x lo hi mx =>
  split at O
  ·unfold cV at O;split at O
   ·split at O
    ·exact none_ _ O
    ·cases O
   ·split at O
    ·split at O
     ·split at O
      ·exact none_ _ O
      ·split at O
       ·split at O
        ·exact none_ _ O
        ·cases O
       ·cases O
     ·cases O
    ·cases O
   ·split at O
    ·split at O
     ·split at O
      ·exact none_ _ O
      ·cases O
     ·cases O
    ·cases O
   ·cases O
  ·cases O
 case build ty parts =>
  split at O
  ·intro p U;obtain⟨q,hq,Y⟩:=JM O p U;obtain⟨y,hy,rfl⟩:=agB.1 hq;exact key y.2 (by simp only[Op.operands,List.toList_toArray];exact agB.2 ⟨y,hy,rfl⟩) (by simp) (by simp) (by simp) _ Y
  ·cases O
 case buildSlice ty len parts =>
  split at O
  ·rename_i X;unfold ee at O;split at O
   ·split at O
    ·split at O
     ·split at O
      ·rename_i hf;split at O
       ·simp only[agL]at O;subst O;intro p U;rcases ahU.1 U with U|U
        ·obtain⟨q,hq,Y⟩:=tG hf _ (gC U);obtain⟨y,hy,rfl⟩:=agB.1 hq;exact key y.2 (by simp only[Op.operands,List.toList_toArray];exact agB.2 ⟨y,hy,rfl⟩) (by simp) (by simp) (by simp) _ Y
        ·simp only[agZ]at U;subst U;exact keyd _ X (by simp) (by simp) (by simp)
       ·cases O
      ·cases O
     ·cases O
    ·cases O
   ·cases O
  ·cases O
 case makeSlice ty l c =>
  split at O
  ·rename_i X;unfold pY at O;split at O
   ·split at O
    ·split at O
     ·simp only[agL]at O;subst O;intro p U;simp only[agZ]at U;subst U;exact keyd _ X (by simp) (by simp) (by simp)
     ·cases O
    ·cases O
   ·cases O
  ·cases O
 case binOp op ty x y ty' =>
  split at O
  ·exact none_ _ O
  ·cases O
 case unOp op ty x =>
  split at O
  ·exact none_ _ O
  ·cases O
 case makeFunc fn first caps =>
  split at O
  ·split at O
   ·exact none_ _ O
   ·cases O
  ·cases O
 case convert s d x =>
  split at O
  ·split at O
   ·exact none_ _ O
   ·cases O
  ·cases O
 case extract x i =>
  split at O
  ·split at O
   ·exact none_ _ O
   ·cases O
  ·cases O
 case call c =>
  cases hc:c.callee with
  | invoke _ _=>rw[hc]at O;cases O
  | value f =>
   rw[hc]at O;simp only at O;have Z:∀d∈c.args.toList.map vs,∀x∈nm d,x∈gu o vs:=by
    intro d X x Y;obtain⟨y,hy,rfl⟩:=agB.1 X;exact key y (by simp only[Op.operands,Call.operands,ahZ];exact agR _ hy) (by simp) (by simp) (by simp) _ Y
   have aa:∀d,o.dst=some d->d∈gu o vs:=fun d X=>keyd d X (by simp) (by simp) (by simp);have ah:∀x∈nm (vs f),x∈gu o vs:=key f (by simp[Op.operands,Call.operands,hc]) (by simp) (by simp) (by simp);generalize c.args.toList.map vs=ds at *;unfold ij at O;split at O
   ·split at O
    ·intro p U;rcases Lq O p U with hh|⟨d,X,Y⟩
     ·exact aa _ hh
     ·exact Z d X _ Y
    split at O
    ·intro p U;obtain⟨d,X,Y⟩:=Ll O p U;exact Z d X _ Y
    split at O
    ·split at O
     ·intro p U;rcases tf O p U with hh|hh|⟨d,X,Y⟩
      ·exact aa _ hh
      ·exact Z _ aid _ (by rw[hh];simp[nm,gF])
      ·exact Z d (aie _ X) _ Y
     ·intro p U;rcases tf O p U with hh|hh|⟨d,X,Y⟩
      ·exact aa _ hh
      ·exact Z _ aid _ (by rw[hh];simp[nm,gF])
      ·exact Z d (aie _ X) _ Y
     ·intro p U;rcases tf O p U with hh|hh|⟨d,X,Y⟩
      ·exact aa _ hh
      ·exact Z _ aid _ (by rw[hh];simp[nm,gF])
      ·exact Z d (aie _ X) _ Y
     ·cases O
    ·intro p U;rcases Ae O p U with hh|⟨d,X,Y⟩
     ·exact aa _ hh
     ·exact Z d X _ Y
   ·rename_i g kk caps ai;split at O
    ·rename_i ae;rw[agN]at ae;have ab:∀d∈caps,∀x∈nm d,x∈gu o vs:=fun d X x Y=>by
      have:=ae d X;rw[TP (fun f kk xs he=>by rw[he]at this;cases this)]at Y;exact ah _ (by rw[ai];exact aia.2 ⟨d,X,Y⟩)
     intro p U;rcases Ae O p U with hh|⟨d,X,Y⟩
     ·exact aa _ hh
     ·rcases ahU.1 X with X|X
      ·exact ab d (ahm X) _ Y
      ·rcases ahU.1 X with X|X
       ·exact Z d X _ Y
       ·exact ab d (ahk X) _ Y
    ·cases O
   ·cases O
  | builtin b =>
   rw[hc]at O;simp only at O;unfold cB at O;split at O
   ·split at O
    ·split at O
     ·split at O
      ·exact none_ _ O
      ·exact none_ _ O
      ·exact none_ _ O
      ·cases O
     ·split at O
      ·exact none_ _ O
      ·cases O
     ·cases O
    ·cases O
   ·rename_i s x ad;obtain⟨ps,px,hl,rfl,rfl⟩:=TK ad;split at O
    ·split at O
     ·rename_i X;intro p U;rcases Br O p U with h1|h1
      ·rw[h1];exact keyd _ X (by simp) (by simp) (by simp)
      ·exact key ps (by simp only[Op.operands,Call.operands,ahZ];exact agR _ (by rw[hl];simp)) (by simp) (by simp) (by simp) _ h1
     ·cases O
    ·cases O
   ·split at O
    ·exact none_ _ O
    ·cases O
   ·split at O
    ·exact none_ _ O
    ·cases O
   ·cases O
end
theorem dZ {h h':Nat->Option Row} {k:Nat} (hk:h (rt k)=h' (rt k)):EH h k=EH h' k:=by
 unfold EH;unfold rt at hk;split
 ·rename_i O;rw[if_pos O]at hk;rw[hk]
 ·rename_i O;rw[if_neg O]at hk;rw[hk]
theorem cv:PK=1000000:=rfl
theorem eS (x o:Nat):2*PK<=NK x o:=by unfold NK;rw[cv];omega
theorem rH {x:Nat} (o:Nat) (O:x<PK):NK x o % PK=x:=by
 unfold NK;rw[Nat.mul_add_mod];exact ahA O
theorem Ch {x:Nat} (o:Nat) (O:x<PK):NK x o / PK-2=o:=by
 unfold NK;rw[Nat.mul_add_div (by rw[cv];decide),ajc O];omega
theorem K1 {k:Nat} (hk:2*PK<=k):k=NK (k % PK) (k / PK-2):=by
 unfold NK;have h1:2<=k / PK:=by
  rw[Nat.le_div_iff_mul_le (by rw[cv];decide)];exact hk
 have h2:k / PK-2+2=k / PK:=by omega
 rw[h2];exact (aiP k PK).symm
theorem H8 (k:Nat):k % PK<PK:=ahy _ (by rw[cv];decide)
theorem sO {x o:Nat} (O:x<PK):rt (NK x o)=x:=by
 unfold rt;rw[if_neg (by have:=eS x o;omega),rH o O]
theorem gQ {k:Nat} (hk:k<2*PK):rt k=k:=if_pos hk
theorem qJ {h:Nat->Option Row} {x o:Nat} (O:x<PK):EH h (NK x o)=(h x).bind fun r=>p7 r o:=by
 unfold EH;rw[if_neg (by have:=eS x o;omega),rH o O,Ch o O]
theorem qK {h:Nat->Option Row} {k:Nat} (hk:k<2*PK):EH h k=(h k).map (BM k):=if_pos hk
theorem aeB (y:Nat) (r:Row):(BM y r).v=r.v∧(BM y r).ty=r.ty∧(BM y r).fz=r.fz∧(BM y r).lst=r.lst∧(BM y r).mp=r.mp:=by
 unfold BM;split<;>exact⟨rfl,rfl,rfl,rfl,rfl⟩
def LeC (d O:D):Prop:=O=d∨((∃x s n,d=.ph x s n)∧O=.und)
def Sh (r r':Row):Prop:=r'=r∨(r.mp=true∧∃cs,r' = { r with cells:=cs }∧cs.length=r.cells.length∧∀(j:Nat) d O,r.cells[j]? = some d->cs[j]? = some O->LeC d O)∨(r.mp=false∧∃k,r' = { r with cells:=r.cells.take k })
def BO (h h':Nat->Option Row):Prop:=∀k r',h' k=some r'->∃r,h k=some r∧Sh r r'
theorem Sh.refl (r:Row):Sh r r := .inl rfl
theorem BO.refl (h:Nat->Option Row):BO h h:=fun k r' hk=>⟨r',hk,.refl _⟩
theorem LeC.trans {a b c:D} (h:LeC a b) (k:LeC b c):LeC a c:=by
 rcases h with rfl|⟨h1,rfl⟩
 ·exact k
 ·rcases k with rfl|⟨⟨_,_,_,h2⟩,_⟩
  ·exact .inr ⟨h1,rfl⟩
  ·cases h2
theorem Sh.trans {a b c:Row} (h:Sh a b) (k:Sh b c):Sh a c:=by
 rcases h with rfl|⟨h1,cs,rfl,h2,h3⟩|⟨h1,n,rfl⟩
 ·exact k
 ·rcases k with rfl|⟨O,cs',rfl,Y,Z⟩|⟨O,_⟩
  ·exact .inr (.inl ⟨h1,cs,rfl,h2,h3⟩)
  ·refine .inr (.inl ⟨h1,cs',rfl,Y.trans h2,fun j d d' hd U =>?_⟩);have X:j<cs.length:=by
    have:=(ag5.1 U).1;simp only at Y;omega
   exact (h3 j d _ hd (agP X)).trans (Z j _ d' (agP X) U)
  ·simp only at O;rw[h1]at O;cases O
 ·rcases k with rfl|⟨O,_⟩|⟨_,m,rfl⟩
  ·exact .inr (.inr ⟨h1,n,rfl⟩)
  ·simp only at O;rw[h1]at O;cases O
  ·exact .inr (.inr ⟨h1,min m n,by simp[List.take_take]⟩)
theorem BO.trans {a b c:Nat->Option Row} (h:BO a b) (k:BO b c):BO a c:=fun x r O=>by
 obtain⟨U,h1,h2⟩:=k x r O;obtain⟨X,h3,h4⟩:=h x U h1;exact⟨X,h3,h4.trans h2⟩
theorem BO.bI {a b:Nat->Option Row} (h:BO a b) (x:Nat) (r:Option Row):BO (bI a x r) (bI b x r):=fun y r' O=>by
 by_cases U:y=x
 ·subst U;rw[aq]at O ⊢;exact⟨r',O,.refl _⟩
 ·rw[av _ _ U]at O ⊢;exact h y r' O
theorem BO.apply:∀(l:List (Nat×Option Row)) {a b:Nat->Option Row},BO a b->BO (aO a l) (aO b l)
 | [],_,_,h=>h
 | (x,r)::l,_,_,h=>BO.apply l (h.bI x r)
theorem Sh.same {r r':Row} (h:Sh r r'):r'.v=r.v∧r'.ty=r.ty∧r'.fz=r.fz∧r'.lst=r.lst∧r'.mp=r.mp:=by
 rcases h with rfl|⟨_,cs,rfl,_⟩|⟨_,k,rfl⟩<;>exact⟨rfl,rfl,rfl,rfl,rfl⟩
theorem Sh.nil {r r':Row} (h:Sh r r') (O:r.cells=[]):r'.cells=[]:=by
 rcases h with rfl|⟨_,cs,rfl,h2,_⟩|⟨_,k,rfl⟩
 ·exact O
 ·rw[O]at h2;exact ahX h2
 ·simp[O]
theorem Sh.cell {r r':Row} (h:Sh r r') {j:Nat} {X:D} (O:r'.cells[j]? = some X) (Y:X ≠ .und):r.cells[j]? = some X:=by
 rcases h with rfl|⟨_,cs,rfl,h2,h3⟩|⟨_,k,rfl⟩
 ·exact O
 ·have U:j<r.cells.length:=by
   have:=(ag5.1 O).1;simp only at this;omega
  rcases h3 j _ X (agP U) O with rfl|⟨_,rfl⟩
  ·exact agP U
  ·exact absurd rfl Y
 ·simp only[agS]at O;split at O
  ·exact O
  ·cases O
theorem dU.le {w:World} {M:Nat->Prop} {g:Nat×Nat} {r r':Row} (h:dU w M g r) (hl:Sh r r'):dU w M g r':=by
 rcases hl with rfl|⟨h1,cs,rfl,h2,h3⟩|⟨h1,k,rfl⟩
 ·exact h
 rotate_left
 ·unfold dU at h ⊢;simp only[h1]at h ⊢;obtain⟨arr,U,k2,k3⟩:=h;refine⟨arr,U,by simp only[agV];omega,fun j d Z =>?_⟩;simp only[agS]at Z;split at Z
  ·exact k3 j d Z
  ·cases Z
 ·unfold dU at h ⊢;simp only[h1]at h ⊢;rcases h with⟨ks,vs,U,k2⟩|⟨U,arr,k2,k3,k4⟩
  ·have ad:cs=r.cells:=by
    rw[U]at h2
    match cs,h2 with
    | [O],_ =>
     rcases h3 0 (.mpc ks vs) O (by rw[U];rfl) rfl with rfl|⟨⟨_,_,_,hh⟩,_⟩
     ·exact U.symm
     ·cases hh
   subst ad;exact .inl ⟨ks,vs,U,k2⟩
  ·have aa:∀(j:Nat) (O:D),cs[j]? = some O->∃d,r.cells[j]? = some d∧LeC d O:=by
    intro j O hd;have ab:j<r.cells.length:=by
     have:=(ag5.1 hd).1;omega
    exact⟨_,agP ab,h3 j _ O (agP ab) hd⟩
   refine .inr ⟨fun O hd =>?_,arr,k2,by simp only;omega,fun j O hd =>?_⟩
   ·obtain⟨j,Z⟩:=agY hd;obtain⟨d,X,Y⟩:=aa j O Z;rcases Y with rfl|⟨_,rfl⟩
    ·exact U _ (ag4 X)
    ·rfl
   ·obtain⟨d,X,Y⟩:=aa j O hd;rcases Y with rfl|⟨_,rfl⟩
    ·exact k4 j _ X
    ·trivial
section
variable {N:Nat} {M:Nat->Prop} {L:jg} {w0:World} {blk:Nat->Option (Nat×Nat)} {V:Nat->Nat->Prop} {t:Nat->D} {h h':Nat->Option Row} {a:Act} {w:World}
theorem zG (X:BO h h') {b:Nat} (U:¬Own M h blk b):¬Own M h' blk b:=by
 rintro (O|⟨x,r',g,Y,Z,hg,he⟩)
 ·exact U (.inl O)
 ·obtain⟨r,h1,h2⟩:=X x r' Y;exact U (.inr ⟨x,r,g,h1,by rw[<- h2.same.2.2.1];exact Z,hg,he⟩)
theorem DX (O:BO h h'):Gh w w (Own M h blk) (Own M h' blk) h h' blk blk V V:=⟨fun b h1 h2=>⟨h1,zG O h2,rfl⟩,fun _ _ h=>h,fun x v _ r' h1 h2=>by
 obtain⟨r,U,X⟩:=O x r' h1;exact⟨⟨r,U,by rw[<- X.same.1];exact h2⟩,rfl,fun _ _=>rfl⟩⟩
theorem Inv.le (O:Inv N M L w0 blk V t h a w) (X:BO h h'):Inv N M L w0 blk V t h' a w where
 tab:=O.tab.keep fun b h1 h2=>⟨h1,zG X h2,rfl⟩
 below:=O.below
 mlt:=O.mlt
 lent:=O.lent
 pin go Z:=⟨(O.pin go Z).1,fun r' hr hv=>by
  obtain⟨r,Y,U⟩:=X 0 r' hr;exact (O.pin go Z).2 r Y (by rw[<- U.same.1];exact hv)⟩
 defers:=O.defers
 tsz:=O.tsz
 slots i:=(O.slots i).mono (DX X)
 rows x r' hx:=by
  obtain⟨r,Y,U⟩:=X x r' hx;obtain⟨h1,h2⟩:=O.rows x r Y;refine⟨fun hn=>by rw[U.same.1];exact h1 hn,?_⟩;cases hb:blk x with
  | none =>
   rw[hb]at h2;exact U.nil h2
  | some g =>
   rw[hb]at h2;exact⟨h2.1,(dU.le h2.2 U).keep rfl rfl rfl rfl fun b q1 q2=>⟨q1,zG X q2,rfl⟩⟩
 inj x y r s g g' hx hy Z ab he:=by
  obtain⟨r1,Y,_⟩:=X x r hx;obtain⟨r2,U,_⟩:=X y s hy;exact O.inj x y r1 r2 g g' Y U Z ab he
 big:=O.big
 pha y r' g hy hm Z j x s n hc:=by
  obtain⟨r,Y,U⟩:=X y r' hy;obtain⟨h0,u,q1,q2⟩:=O.pha y r g Y (by rw[<- U.same.2.2.2.2];exact hm) Z j x s n (U.cell hc (by intro h;cases h));exact⟨h0,u,q1,q2.mono fun ad q3=>by
   obtain⟨r2,q4,_⟩:=X x ad q3;exact⟨⟨r2,q4⟩,rfl,fun _ _=>rfl⟩⟩
 ali y r' g hy hz ae Z j c d' hj aa:=by
  obtain⟨r,Y,U⟩:=X y r' hy;obtain⟨u,q1,q2⟩:=O.ali y r g Y (by rw[<- U.same.2.2.1];exact hz) (by rw[<- U.same.2.2.2.1];exact ae) Z j c d' (U.cell hj (by intro h;subst h;cases aa)) aa;exact⟨u,q1,q2.mono (DX X)⟩
theorem bd.le {e:Nat} {dst:Option Nat} {E:bF} {v:Value} (U:bd N M L w0 V t h a e dst E v w) (O:BO (aO h E.hw) h') :
  ∃blk',Inv N M L w0 blk' (fun x n=>V x n∨(dst=some x∧n=e)) t h' a w∧RT w (Own M h' blk') h' blk' (fun x n=>V x n∨(dst=some x∧n=e)) E.val v:=by
 obtain⟨blk',h1,h2⟩:=U;exact⟨blk',h1.le O,h2.mono (DX O)⟩
end
theorem jy {cs:List D} {o:Nat} {d:D} (h:o<cs.length):(putCells cs o [d]).length=cs.length:=iU (show o+1<=cs.length from h)
theorem fD {cs:List D} {o:Nat} {d:D} (h:o<cs.length):(putCells cs o [d])[o]? = some d:=by
 rw[kY (show o+[d].length<=cs.length from h)];simp
theorem gG {cs:List D} {o j:Nat} {d:D} (h:o<cs.length) (O:j≠o):(putCells cs o [d])[j]? = cs[j]?:=by
 rw[kY (show o+[d].length<=cs.length from h)];split
 ·rfl
 ·rw[if_neg (by simp;omega)]
def Eg:Option Row->Option Row
 | some r=>if r.mp then (match r.cells with | [.nr _ _ _ _]=>none|_=>some r) else some r
 | none=>none
def Iu (ty nv:Nat) (fz:Bool):Option Row->D->D
 | some r',.nx n _=>if r'.ty=ty∧r'.v=nv∧r'.fz=fz∧r'.lst=true∧r'.mp=false then .nx n r'.cells else .und
 | none,.nx n _ =>.und
 | _,d=>d
def zN (ty s nv:Nat) (fz:Bool) (cs:List D) (o:Nat) (r:Option Row):Option D->List D
 | some d=>[.nr ty s nv (putCells cs o [Iu ty nv fz r d])]
 | none=>[.nr ty s nv cs]
def ET (o:Nat) (r:Option Row) (q:Row):Row :=
 if q.mp then
  match q.cells with
  | [.nr ty s nv cs]=>{ q with cells:=zN ty s nv q.fz cs o r (cs.drop o).head? }
  | _=>q
 else q
def yp (h:Nat->Option Row) (k:Nat) (r:Option Row):Option Row:=@ite _ (k<2*PK) (ltB k (2*PK)) (Eg r) ((h (k % PK)).map (ET (k / PK-2) r))
def jW (h:Nat->Option Row):List (Nat×Option Row)->List (Nat×Option Row)
 | []=>[]
 | (k,r)::l=>(rt k,yp h k r)::jW (bI h (rt k) (yp h k r)) l
theorem zA {r:Option Row} {q:Row} {o:Nat} (h:Eg r=some q):r=some q∧p7 q o=none∧∀y,BM y q=q:=by
 unfold Eg at h;split at h
 ·rename_i r0;split at h
  ·rename_i O;split at h
   ·cases h
   ·rename_i U;simp only[agL]at h;subst h;refine⟨rfl,?_,fun y =>?_⟩
    ·unfold p7;rw[if_pos O];unfold H9;split
     ·rename_i X;exact absurd X (U _ _ _ _)
     ·rfl
    ·unfold BM;rw[if_pos O];have:skL y r0.cells=r0.cells:=by
      unfold skL;split
      ·rename_i X;exact absurd X (U _ _ _ _)
      ·rfl
     rw[this]
  ·rename_i O;simp only[agL]at h;subst h;exact⟨rfl,by unfold p7;rw[if_neg O],fun y=>by unfold BM;rw[if_neg O]⟩
 ·cases h
theorem aba (h:Nat->Option Row) (k:Nat) (r:Option Row):BO (bI (EH h) k r) (EH (bI h (rt k) (yp h k r))):=by
 intro z r' O
 by_cases hk:k<2*PK
 ·rw[gQ hk]at O;unfold yp at O;rw[if_pos hk]at O
  by_cases aa:z<2*PK
  ·rw[qK aa]at O
   by_cases Y:z=k
   ·subst Y;rw[aq]at O ⊢;rw[agA]at O;obtain⟨q,h1,rfl⟩:=O;obtain⟨h2,_,h3⟩:=zA (o:=0) h1;rw[h3];exact⟨q,h2,.refl _⟩
   ·rw[av _ _ Y]at O ⊢;rw[<- qK aa]at O;exact⟨r',O,.refl _⟩
  ·rw[av _ _ (by omega)];unfold EH at O;rw[if_neg aa]at O
   by_cases Y:z % PK=k
   ·rw[Y,aq]at O;rw[Option.bind_eq_some_iff]at O;obtain⟨q,h1,h2⟩:=O;rw[(zA (o:=z / PK-2) h1).2.1]at h2;cases h2
   ·rw[av _ _ Y]at O;exact⟨r',by unfold EH;rw[if_neg aa];exact O,.refl _⟩
 ·have ad:=K1 (aip hk);have U:=H8 k;generalize k % PK=x at ad U;generalize k / PK-2=o at ad;subst ad;rw[sO U]at O;have ax:yp h (NK x o) r=(h x).map (ET o r):=by
   unfold yp;rw[if_neg hk,rH o U,Ch o U]
  rw[ax]at O;cases hx:h x with
  | none =>
   rw[hx]at O;simp only[Option.map_none]at O;have X:EH h z=some r':=by
    rw[<- O];apply dZ
    by_cases hzx:rt z=x
    ·rw[hzx,aq,hx]
    ·rw[av _ _ hzx]
   by_cases Y:z=NK x o
   ·subst Y;rw[qJ U,hx]at X;cases X
   ·rw[av _ _ Y];exact⟨r',X,.refl _⟩
  | some q =>
   rw[hx]at O;simp only[Option.map_some]at O
   by_cases hzx:rt z=x
   rotate_left
   ·have:EH h z=some r':=by rw[<- O];exact dZ (by rw[av _ _ hzx])
    refine⟨r',?_,.refl _⟩;rw[av _ _ (fun e=>hzx (by rw[e,sO U]))];exact this
   by_cases ae:q.mp=true∧∃ty s nv cs,q.cells=[.nr ty s nv cs]
   rotate_left
   ·have hq:ET o r q=q:=by
     unfold ET;split
     ·rename_i Z;split
      ·rename_i ty s nv cs hc;exact absurd ⟨Z,_,_,_,_,hc⟩ ae
      ·rfl
     ·rfl
    rw[hq]at O;have X:EH h z=some r':=by
     rw[<- O];exact dZ (by rw[hzx,aq,hx])
    by_cases Y:z=NK x o
    ·subst Y;rw[qJ U,hx]at X;simp only[Option.bind_some]at X;unfold p7 at X;split at X
     ·rename_i Z;unfold H9 at X;split at X
      ·rename_i hc;exact absurd ⟨Z,_,_,_,_,hc⟩ ae
      ·cases X
     ·cases X
    ·rw[av _ _ Y];exact⟨r',X,.refl _⟩
   obtain⟨Z,ty,s,nv,cs,hc⟩:=ae;have hq:ET o r q = { q with cells:=zN ty s nv q.fz cs o r (cs.drop o).head? }:=by
    unfold ET;rw[if_pos Z,hc]
   rw[hq]at O;obtain⟨cs',ak,ay⟩:∃cs':List D,zN ty s nv q.fz cs o r (cs.drop o).head? = [.nr ty s nv cs']∧cs'.length=cs.length∧(∀j,j≠o->cs'[j]? = cs[j]?)∧∀d',cs'[o]? = some d'->∃d,cs[o]? = some d∧d'=Iu ty nv q.fz r d:=by
    rw[ajl];cases hd:cs[o]? with
    | none=>exact⟨cs,rfl,rfl,fun _ _=>rfl,fun d' ab=>by rw[hd]at ab;cases ab⟩
    | some d =>
     have ag:=(ag5.1 hd).1;refine⟨_,rfl,jy ag,fun j hj=>gG ag hj,fun d' ab=>⟨d,rfl,?_⟩⟩;rw[fD ag]at ab;simpa using ab.symm
   rw[ak]at O;obtain⟨hlen,al,an⟩:=ay
   by_cases aa:z<2*PK
   ·rw[gQ aa]at hzx;subst hzx;rw[qK aa,aq]at O;simp only[Option.map_some,agL]at O;subst O;rw[av _ _ (by have:=eS z o;omega),qK aa,hx];refine⟨BM z q,rfl,.inr (.inl ⟨by rw[(aeB z q).2.2.2.2,Z],cs'.mapIdx (pO z s),?_,?_,fun j d d' hd ab =>?_⟩)⟩
    ·unfold BM;simp only[Z,if_true,skL]
    ·unfold BM;simp only[Z,if_true,skL,hc,ajm,hlen]
    ·unfold BM at hd;simp only[Z,if_true,skL,hc,ajn,agA]at hd;rw[ajn,agA]at ab;obtain⟨d0,ao,rfl⟩:=hd;obtain⟨d1,ah,rfl⟩:=ab
     by_cases ar:j=o
     ·subst ar;obtain⟨d2,k1,rfl⟩:=an _ ah;rw[ao]at k1;cases k1;cases d0 with
      | nx n xs =>
       cases r with
       | none=>exact .inr ⟨⟨_,_,_,rfl⟩,rfl⟩
       | some r0 =>
        simp only[Iu];split
        ·exact .inl rfl
        ·exact .inr ⟨⟨_,_,_,rfl⟩,rfl⟩
      | _=>cases r<;>exact .inl rfl
     ·rw[al j ar,ao]at ah;cases ah;exact .inl rfl
   ·have ai:=K1 (aip aa);have au:z % PK=x:=by unfold rt at hzx;rwa [if_neg aa]at hzx
    rw[au]at ai;generalize z / PK-2=oz at ai;subst ai;rw[qJ U,aq]at O;simp only[Option.bind_some]at O;unfold p7 at O;simp only[Z,if_true,H9,ajl]at O
    by_cases aw:oz=o
    ·subst aw;rw[aq];cases hd:cs'[oz]? with
     | none=>rw[hd]at O;cases O
     | some d' =>
      obtain⟨d,k1,rfl⟩:=an d' hd;rw[hd]at O;cases r with
      | none=>cases d<;>cases O
      | some r0 =>
       cases d with
       | nx n xs =>
        simp only[Iu]at O;split at O
        ·rename_i aj;obtain⟨rfl,rfl,h3,h4,h5⟩:=aj;simp only[Ef,agL]at O;subst O;refine⟨r0,rfl,.inl ?_⟩;cases r0;simp only at h3 h4 h5 ⊢;rw[h3,h4,h5]
        ·cases O
       | _=>cases O
    ·have az:NK x oz≠NK x o:=by
      unfold NK;rw[cv];omega
     rw[av _ _ az,qJ U,hx];rw[al oz aw]at O;refine⟨r',?_,.refl _⟩;simp only[Option.bind_some];unfold p7;simp only[Z,if_true,hc,H9,ajl];exact O
theorem MD:∀(l:List (Nat×Option Row)) (h:Nat->Option Row),BO (aO (EH h) l) (EH (aO h (jW h l)))
 | [],h =>.refl _
 | (k,r)::l,h=>(BO.apply l (aba h k r)).trans (MD l _)
def bump (nv e:Nat):Option Nat:=if nv<=4*e then some (4*e+1) else if nv=4*e+2 then some (4*e+3) else none
def nrO (r:Row):List D->Option (Row×Nat×Nat×Nat×List D)
 | [.nr ty s nv cs]=>some (r,ty,s,nv,cs)
 | _=>none
def fJ (h:Nat->Option Row) (x v:Nat):Option (Row×Nat×Nat×Nat×List D) :=
 match h x with
 | some r=>if r.v=v∧r.fz=false∧r.mp=true∧x<PK then nrO r r.cells else none
 | none=>none
theorem gZ {h:Nat->Option Row} {x v:Nat} {r:Row} {ty s nv:Nat} {cs:List D} (O:fJ h x v=some (r,ty,s,nv,cs)):h x=some r∧r.v=v∧r.fz=false∧r.mp=true∧x<PK∧r.cells=[.nr ty s nv cs]:=by
 unfold fJ at O;split at O
 ·rename_i r0 X;split at O
  ·rename_i Y;obtain⟨c1,c2,Z,c4⟩:=Y;unfold nrO at O;split at O
   ·rename_i U;simp only[agL,Prod.mk.injEq]at O;obtain⟨rfl,rfl,rfl,rfl,rfl⟩:=O;exact⟨X,c1,c2,Z,c4,U⟩
   ·cases O
  ·cases O
 ·cases O
theorem fb {d:D} (O:fa d=true):ba d=true∧phC d=true∧∀ {w:World} {M:Nat->Prop} {u:Value},Ci w M d u↔RP w M d u:=by
 cases d<;>first|exact⟨rfl,rfl,Iff.rfl⟩|cases O
def We:D->D
 | .nx n xs =>.sl false false n xs
 | d=>d
theorem fG {h:Nat->Option Row} {x:Nat} {r:Row} {ty s nv:Nat} {cs:List D} (O:h x=some r) (hm:r.mp=true) (U:r.cells=[.nr ty s nv cs]) (X:x<PK):EH h x=some ⟨r.v,r.ty,cs.mapIdx (pO x s),r.fz,r.lst,true⟩:=by
 rw[qK (by have:=cv;omega),O];simp only[Option.map_some,BM,hm,if_true,U,skL]
theorem eH {h:Nat->Option Row} {x:Nat} {r:Row} {ty s nv:Nat} {cs:List D} (O:h x=some r) (hm:r.mp=true) (U:r.cells=[.nr ty s nv cs]) (X:x<PK) (o:Nat):EH h (NK x o)=Ef ty nv r.fz cs[o]?:=by
 rw[qJ X,O];simp only[Option.bind_some,p7,hm,if_true,U,H9,ajl]
theorem rG {x x' o o':Nat} (U:x<PK) (O:x'<PK) (h:NK x o=NK x' o'):x=x'∧o=o':=by
 unfold NK at h;rw[cv]at *;omega
def Gi (w:World) (blk:Nat->Option (Nat×Nat)) (k s n:Nat) (u:Value):Prop :=
 (∃g c O ty,blk k=some g∧u=.slice (some ⟨g.1,g.2,none⟩) n c∧c*s+g.2=O∧n<=c∧c<=maxLen∧w.shape? g.1=some (ty,O))∨(blk k=none∧n=0∧∃A,u=.slice A 0 0)
section
variable {P:Program} {T:Nat->Option Ty} {N:Nat} {M:Nat->Prop} {L:jg} {w0:World} {blk:Nat->Option (Nat×Nat)} {V:Nat->Nat->Prop} {t:Nat->D} {h:Nat->Option Row} {a:Act} {w:World} {e:Nat} {o:Oper} {Γ:Env}
theorem Inv.AU (hI:Inv N M L w0 blk V t (EH h) a w) {x:Nat} {r:Row} {ty s nv:Nat} {cs:List D} {g:Nat×Nat} (hx:h x=some r) (hm:r.mp=true) (hc:r.cells=[.nr ty s nv cs]) (hp:x<PK) (hg:blk x=some g) :
  ∃arr:Array Value,w.heap[g.1]? = some (.cells arr r.ty (0,0))∧g.2+cs.length<=arr.size∧∀(j:Nat) d,cs[j]? = some d->fa d=true->RP w (Own M (EH h) blk) d (arr.getD (g.2+j) undef):=by
 have O:=hI.rowIs (fG hx hm hc hp) hg;unfold dU at O;simp only at O;rcases O with⟨ks,vs,U,_⟩|⟨U,arr,k2,Y,k4⟩
 ·exfalso;simp only at U;have hl:cs.length=1:=by
   have:=congrArg List.length U;simpa using this
  match cs,hl with
  | [d],_ =>
   simp only[List.mapIdx_cons,List.mapIdx_nil,ag0,and_true]at U;have:=ky x s 0 d;rw[U]at this;cases this
 ·simp only[ajm]at Y;refine⟨arr,k2,Y,fun j d hj Z =>?_⟩;have X:(cs.mapIdx (pO x s))[j]? = some d:=by rw[ajn,hj];exact congrArg some (jD Z)
  exact (fb Z).2.2.1 (k4 j _ X)
theorem Inv.Ei (hI:Inv N M L w0 blk V t (EH h) a w) {x:Nat} {r:Row} {ty s nv n o:Nat} {cs xs:List D} {g:Nat×Nat} (O:h x=some r) (hm:r.mp=true) (U:r.cells=[.nr ty s nv cs]) (X:x<PK) (hg:blk x=some g) (Y:cs[o]? = some (.nx n xs)) :
  ∃u,w.cell? ⟨g.1,g.2+o,none⟩=some u∧Gi w blk (NK x o) s n u:=by
 obtain⟨_,u,h1,h2⟩:=hI.pha x _ g (fG O hm U X) rfl hg o (NK x o) s n (by simp only[ajn,Y,Option.map_some,pO]);have Z:=eH O hm U X o;rw[Y]at Z;exact⟨u,h1,h2 _ Z⟩
def aaX:D->D->D
 | .nx n _,.nx _ O =>.nx n O
 | .nx _ _,_ =>.und
 | d,_=>d
def tV (cs cs':List D):List D:=List.zipWith aaX cs cs'
theorem nF {x k:Nat} (hk:rt k=x):k=x∨∃o,k=NK x o:=by
 by_cases O:k<2*PK
 ·rw[gQ O]at hk;exact .inl hk
 ·have:=K1 (aip O);unfold rt at hk;rw[if_neg O]at hk;rw[hk]at this;exact .inr ⟨_,this⟩
theorem ac6 (cs cs':List D) (j:Nat):(tV cs cs')[j]? = match cs[j]?,cs'[j]? with|some d,some O=>some (aaX d O)|_,_=>none:=by
 unfold tV;rw[List.getElem?_zipWith];cases cs[j]?<;>cases cs'[j]?<;>rfl
theorem Q4 {x:Nat} {r:Row} {ty s nv:Nat} {cs cs':List D} (hx:h x=some r) (hm:r.mp=true) (hc:r.cells=[.nr ty s nv cs]) (hz:r.fz=false) (hp:x<PK) (hlen:cs'.length=cs.length)
  (aj:∀(j:Nat) n' O,cs'[j]? = some (.nx n' O)->∃n xs k,cs[j]? = some (.nx n xs)∧O=xs.take k):BO (EH h) (EH (bI h x (some ⟨r.v,r.ty,[.nr ty s nv (tV cs cs')],false,r.lst,true⟩))):=by
 have X:=ac6 cs cs';have ak:(tV cs cs').length=cs.length:=by simp[tV,hlen]
 have ab:∀(j:Nat) d,cs[j]? = some d->∃d',cs'[j]? = some d':=by
  intro j d hj;have:=(ag5.1 hj).1;exact⟨_,agP (by omega)⟩
 have ao:∀(j:Nat) d',cs'[j]? = some d'->∃d,cs[j]? = some d:=by
  intro j d hj;have:=(ag5.1 hj).1;exact⟨_,agP (by omega)⟩
 generalize hD:bI h x (some ⟨r.v,r.ty,[.nr ty s nv (tV cs cs')],false,r.lst,true⟩)=hh;have ad:hh x=some ⟨r.v,r.ty,[.nr ty s nv (tV cs cs')],false,r.lst,true⟩:=by rw[<- hD,aq]
 have ae:∀y,y≠x->hh y=h y:=fun y hy=>by rw[<- hD,av _ _ hy]
 have al:∀ {h1 h2:Nat->Option Row},(∀y,y≠x->h1 y=h2 y)->∀k,rt k≠x->EH h1 k=EH h2 k:=fun he k hk=>dZ (he _ hk);have ag:∀k,rt k=x->k=x∨∃o,k=NK x o:=by
  intro k hk
  by_cases Z:k<2*PK
  ·rw[gQ Z]at hk;exact .inl hk
  ·have:=K1 (aip Z);unfold rt at hk;rw[if_neg Z]at hk;rw[hk]at this;exact .inr ⟨_,this⟩
 intro k r' hk
 by_cases ah:rt k=x
 rotate_left
 ·exact⟨r',by rw[<- hk];exact al (fun y hy=>(ae y hy).symm) k ah,.refl _⟩
 rcases ag k ah with rfl|⟨o,rfl⟩
 ·rw[fG ad rfl rfl hp]at hk;simp only[agL]at hk;subst hk;refine⟨_,fG hx hm hc hp,.inr (.inl ⟨rfl,(tV cs cs').mapIdx (pO k s),by rw[hz],by simp[ak],fun j d d' Y U =>?_⟩)⟩;simp only[ajn,agA]at Y U;obtain⟨d0,ai,rfl⟩:=Y;obtain⟨d1,aa,rfl⟩:=U;obtain⟨d2,an⟩:=ab j d0 ai;rw[X,ai,an]at aa;simp only[agL]at aa;subst aa;cases d0 with
  | nx n xs =>
   cases d2 with
   | nx n' O=>exact .inl rfl
   | _=>exact .inr ⟨⟨_,_,_,rfl⟩,rfl⟩
  | _=>exact .inl rfl
 ·rw[eH ad rfl rfl hp,X]at hk;cases Y:cs[o]? with
  | none=>rw[Y]at hk;cases hk
  | some d =>
   obtain⟨d',U⟩:=ab o d Y;rw[Y,U]at hk;cases d with
   | nx n xs =>
    cases d' with
    | nx n' O =>
     obtain⟨n0,ar,k,e1,e2⟩:=aj o n' O U;rw[Y]at e1;cases e1;simp only[aaX,Ef,agL]at hk;subst hk;refine⟨_,by rw[eH hx hm hc hp,Y];rfl,.inr (.inr ⟨rfl,k,by rw[e2,hz]⟩)⟩
    | _=>cases hk
   | _=>cases hk
theorem Inv.zN (hI:Inv N M L w0 blk V t (EH h) a w) {x:Nat} {r:Row} {ty s nv:Nat} {cs cs':List D} (hx:h x=some r) (hm:r.mp=true) (hc:r.cells=[.nr ty s nv cs]) (hz:r.fz=false) (hp:x<PK) (hlen:cs'.length=cs.length) {w':World}
  (aw:w'.os=w.os) (aa:w'.tape=w.tape) (ag:w'.output=w.output) (ab:w.heap.size<=w'.heap.size) (ad:∀b,b<w.heap.size->(∀g,blk x=some g->b≠g.1)->w'.heap[b]? = w.heap[b]?)
  (ah:∀(j:Nat) n' O,cs'[j]? = some (.nx n' O)->∃n xs k,cs[j]? = some (.nx n xs)∧O=xs.take k)
  (X:∀g,blk x=some g->w'.shape? g.1=w.shape? g.1∧∃arr:Array Value,w'.heap[g.1]? = some (.cells arr r.ty (0,0))∧g.2+cs.length<=arr.size∧∀(j:Nat) d,cs'[j]? = some d ->
   (fa d=true->RP w' (Own M (EH (bI h x (some ⟨r.v,r.ty,[.nr ty s nv (tV cs cs')],false,r.lst,true⟩))) blk) d (arr.getD (g.2+j) undef))∧∀n' O,d=.nx n' O->Gi w blk (NK x j) s n' (arr.getD (g.2+j) undef)) :
  Inv N M L w0 blk V t (EH (bI h x (some ⟨r.v,r.ty,[.nr ty s nv cs'],false,r.lst,true⟩))) a w':=by
 have ai:∀(j:Nat),(tV cs cs')[j]? = match cs[j]?,cs'[j]? with|some d,some d'=>some (aaX d d')|_,_=>none:=by
  intro j;unfold tV;rw[List.getElem?_zipWith];cases cs[j]?<;>cases cs'[j]?<;>rfl
 have az:(tV cs cs').length=cs.length:=by simp[tV,hlen]
 have aA:∀(j:Nat) d,cs[j]? = some d->∃d',cs'[j]? = some d':=by
  intro j d U;have:=(ag5.1 U).1;exact⟨_,agP (by omega)⟩
 have aj:∀(j:Nat) d',cs'[j]? = some d'->∃d,cs[j]? = some d:=by
  intro j d U;have:=(ag5.1 U).1;exact⟨_,agP (by omega)⟩
 generalize hD:bI h x (some ⟨r.v,r.ty,[.nr ty s nv (tV cs cs')],false,r.lst,true⟩)=hh at X;have ak:hh x=some ⟨r.v,r.ty,[.nr ty s nv (tV cs cs')],false,r.lst,true⟩:=by rw[<- hD,aq]
 have al:∀y,y≠x->hh y=h y:=fun y hy=>by rw[<- hD,av _ _ hy]
 have ax:∀ {h1 h2:Nat->Option Row},(∀y,y≠x->h1 y=h2 y)->∀k,rt k≠x->EH h1 k=EH h2 k:=fun he k hk=>dZ (he _ hk);have an:∀k,rt k=x->k=x∨∃o,k=NK x o:=by
  intro k hk
  by_cases ae:k<2*PK
  ·rw[gQ ae]at hk;exact .inl hk
  ·have:=K1 (aip ae);unfold rt at hk;rw[if_neg ae]at hk;rw[hk]at this;exact .inr ⟨_,this⟩
 have hle:BO (EH h) (EH hh):=by rw[<- hD];exact Q4 hx hm hc hz hp hlen ah
 have hA:=hI.le hle;have hB:=hA.jC (x:=x) (r:=⟨r.v,r.ty,(tV cs cs').mapIdx (pO x s),false,r.lst,true⟩) (r0:=⟨r.v,r.ty,cs'.mapIdx (pO x s),false,r.lst,true⟩) (w':=w') (fG ak rfl rfl hp) rfl rfl aw aa ag ab ad (by
   cases hb:blk x with
   | none =>
    have:=(hI.rows x _ (fG hx hm hc hp)).2;rw[hb]at this;have h1:cs.mapIdx (pO x s)=[]:=this;have h2:cs.length=0:=by
     have:=congrArg List.length h1;simpa using this
    show cs'.mapIdx (pO x s)=[];rw[ahX (hlen.trans h2)];rfl
   | some g =>
    obtain⟨k1,arr,k2,k3,k4⟩:=X g hb;refine⟨k1,.inr ⟨fun d hd =>?_,arr,k2,by simp only[ajm];omega,fun j d U =>?_⟩⟩
    ·obtain⟨j,U⟩:=agY hd;simp only[ajn,agA]at U;obtain⟨d0,Y,rfl⟩:=U;exact ky _ _ _ _
    ·simp only[ajn,agA]at U;obtain⟨d0,Y,rfl⟩:=U
     by_cases Z:fa d0=true
     ·rw[jD Z];exact (fb Z).2.2.2 ((k4 j d0 Y).1 Z)
     ·cases d0<;>first|trivial|exact absurd rfl Z) (fun h=>by cases h) (fun _ g hg j x' s' n' U=>by
   obtain⟨k1,arr,k2,k3,k4⟩:=X g hg;simp only[ajn,agA]at U;obtain⟨d0,Y,he⟩:=U;obtain⟨ay,rfl,rfl,rfl⟩:=pH he;have aB:=(ag5.1 Y).1;exact⟨⟨hp,.inr rfl⟩,_,aT k2 (by omega),fun _ _=>(k4 j _ Y).2 n' ay rfl⟩)
 have ao:bI (EH hh) x (some (⟨r.v,r.ty,cs'.mapIdx (pO x s),false,r.lst,true⟩:Row))=EH (bI h x (some ⟨r.v,r.ty,[.nr ty s nv cs'],false,r.lst,true⟩)):=by
  have ar:bI h x (some (⟨r.v,r.ty,[.nr ty s nv cs'],false,r.lst,true⟩:Row)) x=some ⟨r.v,r.ty,[.nr ty s nv cs'],false,r.lst,true⟩:=aq _ _ _;funext k
  by_cases hkx:rt k=x
  rotate_left
  ·rw[av _ _ (fun e=>hkx (by rw[e,gQ (by have:=cv;omega)]))];exact ax (fun y hy=>by rw[al y hy,av _ _ hy]) k hkx
  rcases an k hkx with rfl|⟨o,rfl⟩
  ·rw[aq,fG ar rfl rfl hp]
  ·rw[av _ _ (by have:=eS x o;have:=cv;omega),eH ak rfl rfl hp,eH ar rfl rfl hp,ai];cases au:cs'[o]? with
   | none=>cases cs[o]?<;>rfl
   | some d' =>
    obtain⟨d,hd⟩:=aj o d' au;rw[hd];cases d' with
    | nx n' O =>
     obtain⟨n0,aC,k,e1,_⟩:=ah o n' O au;rw[hd]at e1;cases e1;rfl
    | _=>cases d<;>rfl
 rw[<- ao];exact hB
theorem Inv.aes (X:Inv N M L w0 blk V t h a w) (S:Nat->Prop) (nv:Nat) (hS:∀k,S k->N<=k∧k≠0∧¬V k nv) {h':Nat->Option Row} (he:∀k,S k->h' k=(h k).map fun r=>{ r with v:=nv }) (ad:∀k,¬S k->h' k=h k):Inv N M L w0 blk V t h' a w:=by
 have hf:∀x r',h' x=some r'->∃r,h x=some r∧r' = { r with v:=r'.v }∧(¬S x->r'=r)∧(S x->r'.v=nv):=by
  intro x r' Z
  by_cases hs:S x
  ·rw[he x hs,agA]at Z;obtain⟨r,h1,rfl⟩:=Z;exact⟨r,h1,rfl,fun hn=>absurd hs hn,fun _=>rfl⟩
  ·rw[ad x hs]at Z;exact⟨r',Z,rfl,fun _=>rfl,fun h=>absurd h hs⟩
 have O:∀ {r r':Row},r' = { r with v:=r'.v }->r'.ty=r.ty∧r'.cells=r.cells∧r'.fz=r.fz∧r'.lst=r.lst∧r'.mp=r.mp:=by
  intro r r' h;rw[h];exact⟨rfl,rfl,rfl,rfl,rfl⟩
 have ho:∀b,¬Own M h blk b->¬Own M h' blk b:=by
  intro b hb aa;rcases aa with aa|⟨x,r',g,Z,hz,hg,e⟩
  ·exact hb (.inl aa)
  ·obtain⟨r,h1,h2,_⟩:=hf x r' Z;exact hb (.inr ⟨x,r,g,h1,by rw[<- (O h2).2.2.1];exact hz,hg,e⟩)
 have ab:Gh w w (Own M h blk) (Own M h' blk) h h' blk blk V V:=⟨fun b h1 h2=>⟨h1,ho b h2,rfl⟩,fun _ _ h=>h,fun x v hv r' h1 h2=>by
  obtain⟨r,Y,U,k3,k4⟩:=hf x r' h1
  by_cases hs:S x
  ·rw[k4 hs]at h2;subst h2;exact absurd hv (hS x hs).2.2
  ·obtain rfl:=k3 hs;exact⟨⟨r',Y,h2⟩,rfl,fun _ _=>rfl⟩⟩
 exact {
  tab:=X.tab.keep fun b h1 h2=>⟨h1,ho b h2,rfl⟩
  below:=X.below
  mlt:=X.mlt
  lent:=X.lent
  pin:=fun go hg=>⟨(X.pin go hg).1,fun r' hr hv=>by
   obtain⟨r,Y,U,k3,k4⟩:=hf 0 r' hr;obtain rfl:=k3 (fun hs=>(hS 0 hs).2.1 rfl);exact (X.pin go hg).2 r' Y hv⟩
  defers:=X.defers
  tsz:=X.tsz
  slots:=fun i=>(X.slots i).mono ab
  rows:=fun x r' Z=>by
   obtain⟨r,Y,U,k3,k4⟩:=hf x r' Z;obtain⟨h1,h2⟩:=X.rows x r Y;refine⟨fun hn =>?_,?_⟩
   ·obtain rfl:=k3 (fun hs=>by have:=(hS x hs).1;omega);exact h1 hn
   ·cases hb:blk x with
    | none=>rw[hb]at h2;exact (O U).2.1.trans h2
    | some g =>
     rw[hb]at h2;exact⟨h2.1,h2.2.keep (O U).2.1 (O U).1 (O U).2.2.2.2 rfl fun b q1 q2=>⟨q1,ho b q2,rfl⟩⟩
  inj:=fun x y r s g g' Z hy hg ae e=>by
   obtain⟨r1,Y,_⟩:=hf x r Z;obtain⟨r2,U,_⟩:=hf y s hy;exact X.inj x y r1 r2 g g' Y U hg ae e
  big:=X.big
  pha:=fun y r' g hy hm hg j x s n hc=>by
   obtain⟨r,Y,U,_⟩:=hf y r' hy;obtain⟨h0,u,q1,q2⟩:=X.pha y r g Y (by rw[<- (O U).2.2.2.2];exact hm) hg j x s n (by rw[<- (O U).2.1];exact hc);exact⟨h0,u,q1,q2.mono fun ag q3=>by
    obtain⟨r2,q4,_⟩:=hf x ag q3;exact⟨⟨r2,q4⟩,rfl,fun _ _=>rfl⟩⟩
  ali:=fun y r' g hy hz ah hg j c d' hj ai=>by
   obtain⟨r,Y,U,_⟩:=hf y r' hy;obtain⟨u,q1,q2⟩:=X.ali y r g Y (by rw[<- (O U).2.2.1];exact hz) (by rw[<- (O U).2.2.2.1];exact ah) hg j c d' (by rw[<- (O U).2.1];exact hj) ai;exact⟨u,q1,q2.mono ab⟩ }
end
def DY (τ:Ty) (x s nv o:Nat) (cs:List D):Option D->Option bF
 | some (.nx n xs)=>if τ.size=1∧τ.ds.oD=false then some ⟨.buf (NK x o) nv s 0 n,[]⟩ else none
 | some _=>if o+τ.size<=cs.length∧((cs.drop o).take τ.size).all fa=true then (match jw τ ((cs.drop o).take τ.size) with|some d=>some ⟨d,[]⟩|none=>none) else none
 | none=>none
def oZ (τ:Ty) (h:Nat->Option Row):D->Option bF
 | .ptr x v o =>
  match fJ h x v with
  | some (r,ty,s,nv,cs)=>DY τ x s nv o cs (cs.drop o).head?
  | none=>none
 | _=>none
def zQ (x:Nat) (r:Row) (ty s nv:Nat) (cs:List D) (o n:Nat):Option D->Option bF
 | some (.nx O xs)=>if n*s<=xs.length then some ⟨.und,[(x,some ⟨r.v,r.ty,[.nr ty s nv (putCells cs o [.nx n (xs.take (n*s))])],false,r.lst,true⟩)]⟩ else none
 | _=>none
def zR (x:Nat) (r:Row) (ty s:Nat) (cs:List D) (o y n:Nat) (q:Row):Option Nat->Option bF
 | some O=>some ⟨.und,[(y,none),(x,some ⟨r.v,r.ty,[.nr ty s O (putCells cs o [.nx n q.cells])],false,r.lst,true⟩)]⟩
 | none=>none
def plV:D->Option (List D)
 | .agg xs=>some xs
 | .int k n=>some [.int k n]
 | .bool b=>some [.bool b]
 | .str s=>some [.str s]
 | .sl a b n xs=>some [.sl a b n xs]
 | _=>none
def zS (τ:Ty) (x:Nat) (r:Row) (ty s nv:Nat) (cs:List D) (o:Nat):Option (List D)->Option bF
 | some O=>if O.length=τ.size∧O.all fa=true then some ⟨.und,[(x,some ⟨r.v,r.ty,[.nr ty s nv (putCells cs o (O.map canon))],false,r.lst,true⟩)]⟩ else none
 | none=>none
def vG (τ:Ty) (e:Nat) (h:Nat->Option Row) (x:Nat) (r:Row) (ty s nv:Nat) (cs:List D) (o:Nat):D->Option bF
 | .buf y O U X n =>
  if τ.size=1∧U=s∧X=0 then
   if y=NK x o then (if O=nv then zQ x r ty s nv cs o n (cs.drop o).head? else none)
   else if y<PK then
    match live h y O with
    | some q=>if q.fz=false∧q.lst=true∧q.ty=ty∧q.cells.length=n*s then zR x r ty s cs o y n q (bump nv e) else none
    | none=>none
   else none
  else none
 | d=>zS τ x r ty s nv cs o (plV d)
def mm (τ:Ty) (e:Nat) (h:Nat->Option Row) (p d:D):Option bF :=
 match p with
 | .ptr x v o =>
  match fJ h x v with
  | some (r,ty,s,nv,cs)=>if o+τ.size<=cs.length∧0<τ.size then vG τ e h x r ty s nv cs o d else none
  | none=>none
 | _=>none
section
variable {P:Program} {T:Nat->Option Ty} {N:Nat} {M:Nat->Prop} {L:jg} {w0:World} {blk:Nat->Option (Nat×Nat)} {V:Nat->Nat->Prop} {t:Nat->D} {h:Nat->Option Row} {a:Act} {w:World} {e:Nat} {o:Oper} {Γ:Env}
def je (N:Nat) (M:Nat->Prop) (L:jg) (w0:World) (V:Nat->Nat->Prop) (t:Nat->D) (h:Nat->Option Row) (a:Act) (e:Nat) (dst:Option Nat) (E:bF) (v:Value) (w':World):Prop :=
 ∃blk',Inv N M L w0 blk' (fun x n=>V x n∨(dst=some x∧n=e)) t (EH (aO h E.hw)) a w' ∧
  RT w' (Own M (EH (aO h E.hw)) blk') (EH (aO h E.hw)) blk' (fun x n=>V x n∨(dst=some x∧n=e)) E.val v
def VNr (V:Nat->Nat->Prop) (h:Nat->Option Row):Prop:=∀x r ty s nv cs,h x=some r->r.mp=true->r.cells=[.nr ty s nv cs]->x<PK->∀o,V (NK x o) nv
theorem XE (hT:ig P T) (hI:Inv N M L w0 blk V t (EH h) a w) (ae:VNr V h) {ty:Nat} {p:Operand} {τ:Ty} {E:bF} (ho:o.op=.load ty p) (hτ:T ty=some τ) (O:oZ τ h (ev t p)=some E):dY P o a w (je N M L w0 V t h a e o.dst E):=by
 have hp:=hI.ev p;generalize ev t p=q at *;unfold oZ at O;split at O<;>try (cases O;done)
 rename_i x v c;split at O<;>try (cases O;done)
 rename_i r ty' s nv cs hl;obtain⟨hx,hv,hz,hm,X,hc⟩:=gZ hl;have ag:=fG hx hm hc X;obtain⟨g,hg,aa⟩:=hp.2 _ ag hv;rw[ajl]at O;unfold DY at O;split at O
 ·rename_i n xs hn;split at O<;>try (cases O;done)
  rename_i U;obtain⟨c1,c2⟩:=U;simp only[agL]at O;subst O;obtain⟨u,h1,h2⟩:=hI.Ei hx hm hc X hg hn;have Z:=jU (hT ty τ hτ) w g.1 (g.2+c) [u] (by simpa using c1.symm) (fun j v Y=>by
   cases j with
   | zero=>simp only[List.getElem?_cons_zero,agL]at Y;subst Y;simpa using h1
   | succ j=>simp at Y) (fun _=>rfl)
  rw[c2]at Z;refine aL (v:=u) (w':=w) ?_ ?_
  ·simp[execOp,ho,Instr.loadAt,Instr.sureAddr,aa,Z]
  ·refine bd.dO (h:=EH h) hI ⟨ae x r ty' s nv cs hx hm hc X c,fun r' k1 k2 =>?_⟩;rcases h2 with⟨g',c',N',t',q1,rfl,q3,q4,q5,q6⟩|⟨q1,rfl,q3⟩
   ·exact .inl ⟨g',g'.2,c',N',t',q1,rfl,fun _=>⟨rfl,q3⟩,q4,q5,q6⟩
   ·exact .inr ⟨q1,rfl,q3⟩
 ·rename_i d0 ai aj;split at O<;>try (cases O;done)
  rename_i U;obtain⟨c1,c2⟩:=U;split at O<;>try (cases O;done)
  rename_i d hd;simp only[agL]at O;subst O;have ah:At w (Own M (EH h) blk) g.1 (g.2+c) ((cs.drop c).take τ.size):=by
   intro j d1 Y;have ab:=agN.1 c2 d1 (ag4 Y);have ad:cs[c+j]? = some d1:=by
    rw[agS]at Y;split at Y
    ·rwa [agT]at Y
    ·cases Y
   obtain⟨arr,k1,k2,k3⟩:=hI.AU hx hm hc X hg;have ak:=(ag5.1 ad).1;refine⟨(fb ab).1,_,?_,k3 _ _ ad ab⟩;rw[agX];exact aT k1 (by omega)
  exact pX hT hI ho hτ aa ah (by simp;omega) hd
 ·cases O
theorem C3 (hT:ig P T) (hI:Inv N M L w0 blk V t (EH h) a w) {ty y c ty' s nv:Nat} {p x:Operand} {τ:Ty} {r:Row} {cs cs':List D} {us:List Value} {g:Nat×Nat} (ho:o.op=.store ty p x) (hτ:T ty=some τ)
  (hx:h y=some r) (hm:r.mp=true) (hc:r.cells=[.nr ty' s nv cs]) (hz:r.fz=false) (O:y<PK) (hg:blk y=some g) (an:a.eval p=.pointer (some ⟨g.1,g.2+c,none⟩)) (ab:(a.eval x).cells.toList=us) (ao:us.length=τ.size) (hle:c+τ.size<=cs.length) (h1:∀u∈us,u.oneCell'=true)
  (hlen:cs'.length=cs.length) (ad:∀(j:Nat) n' U,cs'[j]? = some (.nx n' U)->∃n xs k,cs[j]? = some (.nx n xs)∧U=xs.take k) (ae:∀j,(j<c∨c+τ.size<=j)->cs'[j]? = cs[j]?)
  (aq:∀(j:Nat) d,j<τ.size->cs'[c+j]? = some d->(fa d=true->RP w (Own M (EH h) blk) d (us.getD j undef))∧∀n' U,d=.nx n' U->Gi w blk (NK y (c+j)) s n' (us.getD j undef)) :
  dY P o a w (je N M L w0 V t h a e o.dst ⟨.und,[(y,some ⟨r.v,r.ty,[.nr ty' s nv cs'],false,r.lst,true⟩)]⟩):=by
 obtain⟨arr,k1,k2,k3⟩:=hI.AU hx hm hc O hg;have X:=run_storeCells_at P g.1 (g.2+c) r.ty us 0 arr w k1 (by omega) h1;rw[ahb]at X;have ag:(arr.toList.take (g.2+c)++us++arr.toList.drop (g.2+c+us.length)).toArray.size=arr.size:=by simp;omega
 have Y:∀j,j<cs.length->(arr.toList.take (g.2+c)++us++arr.toList.drop (g.2+c+us.length)).toArray.getD (g.2+j) undef=if j<c then arr.getD (g.2+j) undef else if j<c+us.length then us.getD (j-c) undef else arr.getD (g.2+j) undef:=by
  intro j hj;rw[qp arr us (g.2+c) (g.2+j) (by omega)]
  by_cases ah:j<c
  ·rw[if_pos (by omega),if_pos ah]
  ·rw[if_neg (by omega),if_neg ah]
   by_cases ai:j<c+us.length
   ·rw[if_pos (by omega),if_pos ai];congr 1;omega
   ·rw[if_neg (by omega),if_neg ai]
 generalize ay:(arr.toList.take (g.2+c)++us++arr.toList.drop (g.2+c+us.length)).toArray=arr' at X ag Y;have Z:(w.setRow g.1 arr').heap[g.1]? = some (.cells arr' r.ty (0,0)):=setRow_heap w g.1 arr arr' r.ty (0,0) k1;have aj:(w.setRow g.1 arr').heap.size=w.heap.size:=by simp[World.setRow]
 have hheap:∀b,b≠g.1->(w.setRow g.1 arr').heap[b]? = w.heap[b]?:=by
  intro b hb;simp only[World.setRow,agM];rw[if_neg (Ne.symm hb)]
 have ak:Own M (EH h) blk g.1 := .inr ⟨y,_,g,fG hx hm hc O,hz,hg,rfl⟩;have ar:=Q4 hx hm hc hz O hlen ad;have hkeep:∀ {d:D} {u:Value},RP w (Own M (EH h) blk) d u->RP (w.setRow g.1 arr') (Own M (EH (bI h y (some ⟨r.v,r.ty,[.nr ty' s nv (tV cs cs')],false,r.lst,true⟩))) blk) d u:=fun hr=>hr.keep fun b q1 q2=>⟨by rw[aj];exact q1,zG ar q2,hheap b (fun e=>q2 (e ▸ ak))⟩;have hS:=hI.zN (cs':=cs') (w':=w.setRow g.1 arr') hx hm hc hz O hlen rfl rfl rfl (by rw[aj];exact agC _) (fun b _ hb=>hheap b (hb g hg)) ad (fun g' al=>by
  rw[hg]at al;cases al;refine⟨by simp[World.shape?,Z,k1,ag],arr',Z,by omega,fun j d hj =>?_⟩;have au:j<cs.length:=by
   have:=(ag5.1 hj).1;omega
  rw[Y j au]
  by_cases ax:c<=j∧j<c+τ.size
  ·rw[if_neg (by omega),if_pos (by omega)];obtain⟨i,rfl⟩:∃i,j=c+i:=⟨j-c,by omega⟩;rw[ah2];obtain⟨q1,q2⟩:=aq i d (by omega) hj;exact⟨fun hd=>hkeep (q1 hd),q2⟩
  ·have av:(if j<c then arr.getD (g.2+j) undef else if j<c+us.length then us.getD (j-c) undef else arr.getD (g.2+j) undef)=arr.getD (g.2+j) undef:=by
    split
    ·rfl
    ·rw[if_neg (by omega)]
   rw[av];rw[ae j (by omega)]at hj;refine⟨fun hd=>hkeep (k3 j d hj hd),fun n' U he =>?_⟩;subst he;obtain⟨u,q1,q2⟩:=hI.Ei hx hm hc O hg hj;rw[aT k1 (by omega)]at q1;cases q1;exact q2)
 refine .inr (.inl ⟨w.setRow g.1 arr',?_,blk,?_,trivial⟩)
 ·have aw:(a.eval x).cells.size=τ.size:=by rw[<- ao,<- ab];simp
  have aa:(storeCells ⟨g.1,g.2+c,none⟩ (a.eval x).cells.toList 0).run P w=.ok () (w.setRow g.1 arr'):=by rw[ab];exact X
  simp[execOp,ho,Instr.storeAt,Instr.sureAddr,an,storeVar,run_sizeOf (hT ty τ hτ),aw,aa]
 ·exact hS.weaken fun _ _ h =>.inl h
theorem yw {g:Nat×Nat} {arr arr':Array Value} {ty:Nat} (O:w.heap[g.1]? = some (.cells arr ty (0,0))):(w.setRow g.1 arr').heap[g.1]? = some (.cells arr' ty (0,0))∧(w.setRow g.1 arr').heap.size=w.heap.size∧∀b,b≠g.1->(w.setRow g.1 arr').heap[b]? = w.heap[b]?:=by
 refine⟨setRow_heap w g.1 arr arr' ty (0,0) O,by simp[World.setRow],fun b U =>?_⟩;simp only[World.setRow,agM];rw[if_neg (Ne.symm U)]
theorem Inv.af3 (hI:Inv N M L w0 blk V t (EH h) a w) {y c ty' s nv:Nat} {r:Row} {cs:List D} (hx:h y=some r) (hm:r.mp=true) (hc:r.cells=[.nr ty' s nv cs]) (hz:r.fz=false) (X:y<PK) (hle:c<cs.length) :
  Inv N M L w0 blk V t (EH (bI h y (some ⟨r.v,r.ty,[.nr ty' s nv (putCells cs c [.und])],false,r.lst,true⟩))) a w:=by
 have O:∀(j:Nat) d,(putCells cs c [.und])[j]? = some d->d=.und∨cs[j]? = some d:=by
  intro j d Y
  by_cases Z:j=c
  ·subst Z;rw[fD hle]at Y;cases Y;exact .inl rfl
  ·rw[gG hle Z]at Y;exact .inr Y
 have aa:∀(j:Nat) n' U,(putCells cs c [.und])[j]? = some (.nx n' U)->∃n xs k,cs[j]? = some (.nx n xs)∧U=xs.take k:=by
  intro j n' U Y;rcases O j _ Y with h|h
  ·cases h
  ·exact⟨n',U,U.length,h,by simp⟩
 refine hI.zN hx hm hc hz X (jy hle) rfl rfl rfl (agC _) (fun _ _ _=>rfl) aa (fun g hg =>?_);obtain⟨arr,k1,k2,k3⟩:=hI.AU hx hm hc X hg;refine⟨rfl,arr,k1,k2,fun j d Y=>⟨fun hd =>?_,fun n' U he =>?_⟩⟩
 ·rcases O j d Y with h|h
  ·subst h;cases hd
  ·exact (k3 j d h hd).keep fun b q1 q2=>⟨q1,zG (Q4 hx hm hc hz X (jy hle) aa) q2,rfl⟩
 ·subst he;rcases O j _ Y with h|h
  ·cases h
  ·obtain⟨u,q1,q2⟩:=hI.Ei hx hm hc X hg h;have ab:=(ag5.1 h).1;rw[aT k1 (by omega)]at q1;cases q1;exact q2
theorem Mh (hT:ig P T) (hI:Inv N M L w0 blk V t (EH h) a w) {ty y c ty' s nv aa Y n:Nat} {p x:Operand} {τ:Ty} {r q:Row} {cs:List D} {u':Value} {g:Nat×Nat} (ho:o.op=.store ty p x) (hτ:T ty=some τ) (c1:τ.size=1)
  (hx:h y=some r) (hm:r.mp=true) (hc:r.cells=[.nr ty' s nv cs]) (hz:r.fz=false) (O:y<PK) (hg:blk y=some g) (aP:a.eval p=.pointer (some ⟨g.1,g.2+c,none⟩)) (hle:c<cs.length)
  (ax:h Y=some q) (hyp:Y<PK) (aD:q.fz=false) (aX:q.lst=true) (al:q.mp=false) (aQ:q.ty=ty') (hu:(a.eval x).cells = #[u']) (aE:u'.oneCell'=true) (aF:Gi w blk Y s n u') (hV:∀o,¬V (NK y o) aa) :
  dY P o a w (je N M L w0 V t h a e o.dst ⟨.und,[(Y,none),(y,some ⟨r.v,r.ty,[.nr ty' s aa (putCells cs c [.nx n q.cells])],false,r.lst,true⟩)]⟩):=by
 have aY:=cv;have aW:=hI.big;have ag:Y≠y:=by
  rintro rfl;rw[ax]at hx;cases hx;rw[al]at hm;cases hm
 have hK:∀o,NK y o≠y∧NK y o≠Y∧2*PK<=NK y o:=fun o=>by have:=eS y o;omega
 obtain⟨arr,k1,k2,k3⟩:=hI.AU hx hm hc O hg;have ah:=run_storeCells_at P g.1 (g.2+c) r.ty [u'] 0 arr w k1 (by simp;omega) (fun v hv=>by
  simp only[agZ]at hv;subst hv;exact aE)
 rw[ahb]at ah;have aG:(arr.toList.take (g.2+c)++[u']++arr.toList.drop (g.2+c+[u'].length)).toArray.size=arr.size:=by simp;omega
 have ab:∀j,j<cs.length->(arr.toList.take (g.2+c)++[u']++arr.toList.drop (g.2+c+[u'].length)).toArray.getD (g.2+j) undef=if j=c then u' else arr.getD (g.2+j) undef:=by
  intro j hj;rw[qp arr [u'] (g.2+c) (g.2+j) (by simp;omega)]
  by_cases X:j=c
  ·subst X;rw[if_neg (by omega),if_pos (by simp),if_pos rfl];simp
  ·rw[if_neg X]
   by_cases aZ:j<c
   ·rw[if_pos (by omega)]
   ·rw[if_neg (by omega),if_neg (by simp;omega)]
 generalize a1:(arr.toList.take (g.2+c)++[u']++arr.toList.drop (g.2+c+[u'].length)).toArray=arr' at ah aG ab;obtain⟨ad,aH,hheap⟩:=yw (g:=g) (arr':=arr') k1;have hA:=hI.af3 hx hm hc hz O hle;have hB:=hA.aes (fun k=>∃o,k=NK y o) aa (fun k hk=>by
  obtain⟨o,rfl⟩:=hk;exact⟨by have:=hK o;omega,by have:=hK o;omega,hV o⟩) (h':=EH (bI h y (some ⟨r.v,r.ty,[.nr ty' s aa (putCells cs c [.und])],false,r.lst,true⟩))) (fun k hk=>by
  obtain⟨o,rfl⟩:=hk;rw[eH (aq _ _ _) rfl rfl O,eH (aq _ _ _) rfl rfl O];cases (putCells cs c [D.und])[o]? with
  | none=>rfl
  | some d=>cases d<;>rfl) (fun k hk=>by
  by_cases hky:rt k=y
  ·rcases nF hky with rfl|h
   ·rw[fG (aq _ _ _) rfl rfl O,fG (aq _ _ _) rfl rfl O]
   ·exact absurd h hk
  ·exact dZ (by rw[av _ _ hky,av _ _ hky]))
 generalize aI:bI h y (some (⟨r.v,r.ty,[.nr ty' s aa (putCells cs c [.und])],false,r.lst,true⟩:Row))=h2 at hB;have ay:h2 y=some ⟨r.v,r.ty,[.nr ty' s aa (putCells cs c [.und])],false,r.lst,true⟩:=by rw[<- aI,aq]
 have ai:∀z,z≠y->h2 z=h z:=fun z hz=>by rw[<- aI,av _ _ hz]
 have an:EH h2 Y=some q:=by
  rw[qK (by omega),ai _ ag,ax];simp only[Option.map_some,BM,al];rfl
 have aj:=(hB.rows Y q an).2;have az:∀b,Own M (forget (EH h2) (some Y)) blk b->Own M (EH h2) blk b:=fun b hb=>by
  rcases hb with hb|⟨z,r',g',hz,aR,aS,aU⟩
  ·exact .inl hb
  ·simp only[forget]at hz
   by_cases aJ:z=Y
   ·subst aJ;rw[aq]at hz;cases hz
   ·rw[av _ _ aJ]at hz;exact .inr ⟨z,r',g',hz,aR,aS,aU⟩
 have hC:=hB.WN (w':=w) (h1:=forget (EH h2) (some Y)) (old:=some Y) (d:=NK y c) (r0:=⟨aa,ty',q.cells,false,true,false⟩) (go:=blk Y) rfl rfl rfl (agC _) (fun _ _ _=>rfl) (fun y' Z=>by cases Z;exact⟨q,an,aD⟩) rfl (by have:=hK c;omega) (by have:=hK c;omega) (hV c)
  (fun y' r' j s' n' Z aV ak=>by
   simp only[forget]at Z
   by_cases au:y'=Y
   ·subst au;rw[aq]at Z;cases Z
   rw[av _ _ au]at Z;have hrow:=(hB.rows y' r' Z).2;cases hb:blk y' with
   | none =>
    rw[hb]at hrow;rw[show r'.cells=[] from hrow]at ak;cases ak
   | some g' =>
    obtain⟨⟨q1,q2⟩,_⟩:=hB.pha y' r' g' Z aV hb j _ s' n' ak;rcases q2 with q2|q2
    ·have:=hK c;omega
    ·obtain⟨rfl,rfl⟩:=rG O q1 q2;rw[fG ay rfl rfl O]at Z;simp only[agL]at Z;subst Z;simp only[ajn,fD hle,Option.map_some,agL]at ak;cases ak) (by
  cases hb:blk Y with
  | none=>rw[hb]at aj;exact aj
  | some g' =>
   obtain⟨aw,m1,m2,m3⟩:=hB.D1 an hb al;refine⟨.inr ⟨Y,g',rfl,hb,rfl⟩,aw,by rw[<- aQ];exact m1,m2,fun j d hj=>⟨(m3 j d hj).1,(m3 j d hj).2.keep fun b q1 q2=>⟨q1,?_,rfl⟩⟩⟩;rintro (hn|rfl)
   ·exact q2 (az b hn)
   ·exact q2 (.inr ⟨Y,q,g',an,aD,hb,rfl⟩)) rfl
 generalize aA:bI (forget (EH h2) (some Y)) (NK y c) (some (⟨aa,ty',q.cells,false,true,false⟩:Row))=aK at hC;have ao:aK y=some ⟨r.v,r.ty,(putCells cs c [.und]).mapIdx (pO y s),false,r.lst,true⟩:=by
  rw[<- aA,av _ _ (Ne.symm (hK c).1)];simp only[forget];rw[av _ _ (Ne.symm ag)];exact fG ay rfl rfl O
 have ae:bI blk (NK y c) (blk Y) y=some g:=by rw[av _ _ (Ne.symm (hK c).1),hg]
 have aB:(putCells cs c [D.nx n q.cells]).length=cs.length:=jy hle;have hD:=hC.jC (r0:=⟨r.v,r.ty,(putCells cs c [.nx n q.cells]).mapIdx (pO y s),false,r.lst,true⟩) (w':=w.setRow g.1 arr') ao rfl rfl rfl rfl rfl (by rw[aH];exact agC _) (fun b _ hb=>hheap b (hb g ae)) (by
  rw[ae];refine⟨by simp[World.shape?,ad,k1,aG],?_⟩;have aC:=hC.rowIs ao ae;unfold dU at aC ⊢;simp only at aC ⊢;rcases aC with⟨ks,vs,m1,_⟩|⟨m1,aw,m2,m3,m4⟩
  ·exfalso;have:=congrArg List.length m1;simp only[ajm,jy hle,List.length_singleton]at this;have h0:c=0:=by omega
   subst h0;have aL:=congrArg (fun l:List D=>l[0]?) m1;simp only[ajn,fD hle,Option.map_some,List.getElem?_cons_zero,agL]at aL;cases aL
  ·rw[k1]at m2;simp only[agL,Obj.cells.injEq]at m2;obtain⟨rfl,-⟩:=m2;refine .inr ⟨fun d hd =>?_,arr',ad,by simp only[ajm,aB];omega,fun j d hj =>?_⟩
   ·obtain⟨j,hj⟩:=agY hd;simp only[ajn,agA]at hj;obtain⟨d0,U,rfl⟩:=hj;exact ky _ _ _ _
   ·simp only[ajn,agA]at hj;obtain⟨d0,U,rfl⟩:=hj;have ar:j<cs.length:=by
     have:=(ag5.1 U).1;omega
    rw[ab j ar]
    by_cases X:j=c
    ·subst X;rw[fD hle]at U;cases U;trivial
    ·rw[if_neg X];rw[gG hle X]at U;have:=m4 j (pO y s j d0) (by rw[ajn,gG hle X,U];rfl);exact this.keep fun b q1 q2=>⟨by rw[aH];exact q1,q2,hheap b (fun e=>q2 (.inr ⟨y,_,g,ao,rfl,ae,e.symm⟩))⟩) (fun h=>by cases h) (fun _ g' aM j x' s' n' hj=>by
  rw[ae]at aM;cases aM;simp only[ajn,agA]at hj;obtain⟨d0,U,he⟩:=hj;have ar:j<cs.length:=by
   have:=(ag5.1 U).1;omega
  by_cases X:j=c
  ·subst X;rw[fD hle]at U;simp only[agL]at U;subst U;simp only[pO,D.ph.injEq]at he;obtain⟨rfl,rfl,rfl⟩:=he;refine⟨⟨O,.inr rfl⟩,u',by rw[aT ad (by omega),ab j ar,if_pos rfl],fun r' _ =>?_⟩;rw[aq];exact aF
  ·rw[gG hle X]at U;obtain⟨q1,u,q2,q3⟩:=hC.pha y _ g ao rfl ae j x' s' n' (by rw[ajn,gG hle X,U,<- he];rfl);refine⟨q1,u,?_,q3⟩;rw[aT k1 (by omega)]at q2;rw[aT ad (by omega),ab j ar,if_neg X,q2])
 have aN:bI aK y (some (⟨r.v,r.ty,(putCells cs c [.nx n q.cells]).mapIdx (pO y s),false,r.lst,true⟩:Row))=EH (aO h [(Y,none),(y,some ⟨r.v,r.ty,[.nr ty' s aa (putCells cs c [.nx n q.cells])],false,r.lst,true⟩)]):=by
  simp only[aO];funext k
  by_cases hky:rt k=y
  ·rcases nF hky with rfl|⟨o',rfl⟩
   ·rw[aq,fG (aq _ _ _) rfl rfl O]
   ·rw[av _ _ (hK o').1,eH (aq _ _ _) rfl rfl O,<- aA]
    by_cases hoc:o'=c
    ·subst hoc;rw[aq,fD hle];rfl
    ·rw[av _ _ (fun e=>hoc (rG O O e).2)];simp only[forget];rw[av _ _ (hK o').2.1,eH ay rfl rfl O,gG hle hoc,gG hle hoc]
  ·rw[av _ _ (fun e=>hky (by rw[e,gQ (by omega)])),<- aA,av _ _ (fun e=>hky (by rw[e,sO O]))];simp only[forget]
   by_cases hk1:rt k=Y
   ·rcases nF hk1 with rfl|⟨o',rfl⟩
    ·rw[aq,qK (by omega),av _ _ ag,aq];rfl
    ·rw[av _ _ (by have:=eS Y o';omega),qJ hyp,qJ hyp,ai _ ag,ax,av _ _ ag,aq];simp only[Option.bind_some,Option.bind_none,p7,al];rfl
   ·rw[av _ _ (fun e=>hk1 (by rw[e,gQ (by omega)]))];exact dZ (by rw[ai _ hky,av _ _ hky,av _ _ hk1])
 refine .inr (.inl ⟨w.setRow g.1 arr',?_,bI blk (NK y c) (blk Y),?_,trivial⟩)
 ·simp[execOp,ho,Instr.storeAt,Instr.sureAddr,aP,storeVar,run_sizeOf (hT ty τ hτ),c1,hu,ah]
 ·show Inv _ _ _ _ _ _ _ (EH (aO h _)) _ _;rw[<- aN];exact hD.weaken fun _ _ h =>.inl h
def aat (V:Nat->Nat->Prop) (h:Nat->Option Row) (e:Nat):Prop:=∀x r ty s nv cs O,h x=some r->r.mp=true->r.cells=[.nr ty s nv cs]->x<PK->bump nv e=some O->∀o,¬V (NK x o) O
theorem adi {M':Nat->Prop} {d:D} {U:List D} {u:Value} (O:plV d=some U) (hd:U.all fa=true) (Y:RT w M' h blk V d u):u.cells.toList.length=U.length∧∀(j:Nat) x,U[j]? = some x->fa x=true∧RP w M' (canon x) (u.cells.toList.getD j undef):=by
 have Z:∀x∈U,fa x=true:=agN.1 hd;have one:∀(d0:D),U=[d0]->RP w M' d0 u->u.cells.toList.length=U.length∧∀(j:Nat) x,U[j]? = some x->fa x=true∧RP w M' (canon x) (u.cells.toList.getD j undef):=by
  intro d0 he aa;subst he;have ab:=Z d0 (by simp);have hu:=aa.cells (fb ab).1;rw[hu];refine⟨rfl,fun j x X =>?_⟩;cases j with
  | zero=>simp only[List.getElem?_cons_zero,agL]at X;subst X;exact⟨ab,aa.canon⟩
  | succ j=>simp at X
 cases d with
 | agg xs =>
  simp only[plV,agL]at O;subst O;have ad:RP w M' (.agg xs) u:=Y;cases ad with
  | agg xs us h1 h2 h3 =>
   have ae:(Value.agg us.toArray).cells.toList=us:=by simp[Value.cells]
   rw[ae];exact⟨h1,fun j x X=>⟨Z x (ag4 X),(h2 j x X).canon⟩⟩
 | int k n=>simp only[plV,agL]at O;exact one _ O.symm Y
 | bool b=>simp only[plV,agL]at O;exact one _ O.symm Y
 | str s=>simp only[plV,agL]at O;exact one _ O.symm Y
 | sl a b n xs=>simp only[plV,agL]at O;exact one _ O.symm Y
 | _=>cases O
theorem XJ (hT:ig P T) (hI:Inv N M L w0 blk V t (EH h) a w) (aq:aat V h e) {ty:Nat} {p x:Operand} {τ:Ty} {E:bF} (ho:o.op=.store ty p x) (hτ:T ty=some τ) (O:mm τ e h (ev t p) (ev t x)=some E):dY P o a w (je N M L w0 V t h a e o.dst E):=by
 have hp:=hI.ev p;have hq:=hI.ev x;generalize ev t p=pd at *;generalize ev t x=d at *;unfold mm at O;split at O<;>try (cases O;done)
 rename_i y v c;split at O<;>try (cases O;done)
 rename_i r ty' s nv cs hl;obtain⟨hx,hv,hz,hm,aa,hc⟩:=gZ hl;have ar:=fG hx hm hc aa;obtain⟨g,hg,ag⟩:=hp.2 _ ar hv;split at O<;>try (cases O;done)
 rename_i U;obtain⟨hle,aF⟩:=U;have plain:zS τ y r ty' s nv cs c (plV d)=some E->dY P o a w (je N M L w0 V t h a e o.dst E):=by
  intro O;unfold zS at O;split at O<;>try (cases O;done)
  rename_i c' au;split at O<;>try (cases O;done)
  rename_i U;obtain⟨d1,d2⟩:=U;simp only[agL]at O;subst O;obtain⟨u1,u2⟩:=adi au d2 hq;have aH:(c'.map canon).length=τ.size:=by rw[ag6];exact d1
  have Z:c+(c'.map canon).length<=cs.length:=by omega
  refine C3 hT hI ho hτ hx hm hc hz aa hg ag rfl (u1.trans d1) hle (fun u hu =>?_) (iU Z) (fun j n' Y X =>?_) (fun j X =>?_) (fun j d0 X ab =>?_)
  ·obtain⟨j,X⟩:=agY hu;have aI:=(ag5.1 X).1;obtain⟨q1,q2⟩:=u2 j _ (agP (by omega));have e1:(a.eval x).cells.toList.getD j undef=u:=by simp only[ahf,X,Option.getD_some]
   rw[e1]at q2;exact q2.qe (by rw[lG];exact (fb q1).1)
  ·rw[kY Z]at X;split at X
   ·exact⟨n',Y,Y.length,X,by simp⟩
   ·split at X
    ·rw[agz,agA]at X;obtain⟨x0,h1,h2⟩:=X;have:=(u2 _ x0 h1).1;cases x0<;>first|(cases h2;done)|(cases this;done)
    ·exact⟨n',Y,Y.length,X,by simp⟩
  ·rw[kY Z]
   by_cases h1:j<c
   ·rw[if_pos h1]
   ·rw[if_neg h1,if_neg (by omega)]
  ·rw[kY Z,if_neg (by omega),if_pos (by omega),ah2,agz,agA]at ab;obtain⟨x0,h1,rfl⟩:=ab;obtain⟨q1,q2⟩:=u2 j x0 h1;refine⟨fun _=>q2,fun n' Y he =>?_⟩;cases x0<;>first|(cases he;done)|(cases q1;done)
 unfold vG at O;split at O
 ·rename_i z vz s' oz n;split at O<;>try (cases O;done)
  rename_i U;obtain⟨c1,rfl,rfl⟩:=U;have ai:∀ {k:Nat} {q:Row},EH h z=some q->q.v=vz->Gi w blk z s' n (a.eval x):=by
   intro k q av aw;rcases hq.2 q av aw with⟨g',o',c',N',t',k0,k1,k2,k3,k4,k5⟩|⟨k0,k1,A,k2⟩
   ·obtain⟨k6,k7⟩:=k2 (.inr rfl);rw[ahb]at k6;subst k6;exact .inl ⟨g',c',N',t',k0,k1,k7,k3,k4,k5⟩
   ·exact .inr ⟨k0,k1,A,k2⟩
  have aj:∀ {B:Gi w blk z s' n (a.eval x)},(a.eval x).cells = #[a.eval x]∧(a.eval x).oneCell'=true:=by
   intro B;rcases B with⟨g',c',N',t',k0,k1,_⟩|⟨k0,k1,A,k2⟩
   ·rw[k1];exact⟨rfl,rfl⟩
   ·rw[k2];exact⟨rfl,rfl⟩
  split at O
  ·rename_i ax;subst ax;split at O<;>try (cases O;done)
   rename_i ay;subst ay;rw[ajl]at O;unfold zQ at O;split at O<;>try (cases O;done)
   rename_i n0 xs hn;split at O<;>try (cases O;done)
   rename_i aG;simp only[agL]at O;subst O;have az:EH h (NK y c)=some ⟨vz,ty',xs,r.fz,true,false⟩:=by rw[eH hx hm hc aa,hn];rfl
   have hH:=ai (k:=0) az rfl;obtain⟨ah,ad⟩:=aj (B:=hH);have ae:=(ag5.1 hn).1;refine C3 hT hI ho hτ hx hm hc hz aa hg ag (us:=[a.eval x]) (by rw[ah]) (by simpa using c1.symm) hle (fun u hu=>by simp only[agZ]at hu;subst hu;exact ad) (jy ae) (fun j n' Y X =>?_) (fun j X=>gG ae (by omega)) (fun j d0 X ab =>?_)
   ·by_cases ak:j=c
    ·subst ak;rw[fD ae]at X;simp only[agL,D.nx.injEq]at X;obtain⟨rfl,rfl⟩:=X;exact⟨n0,xs,_,hn,rfl⟩
    ·rw[gG ae ak]at X;exact⟨n',Y,Y.length,X,by simp⟩
   ·obtain rfl:j=0:=by omega
    rw[ahb,fD ae]at ab;simp only[agL]at ab;subst ab;refine⟨fun hd=>(by cases hd),fun n' Y he =>?_⟩;simp only[D.nx.injEq]at he;obtain⟨rfl,rfl⟩:=he;exact hH
  ·split at O<;>try (cases O;done)
   rename_i aA;split at O<;>try (cases O;done)
   rename_i q al;split at O<;>try (cases O;done)
   rename_i aB;obtain⟨q1,q2,q3,q4⟩:=aB;obtain⟨an,aC⟩:=cq al;have ao:=gM al;unfold zR at O;split at O<;>try (cases O;done)
   rename_i aD hb;simp only[agL]at O;subst O;have aE:EH h z=some q:=by
    rw[qK (by omega),an];simp only[Option.map_some,BM,ao];rfl
   have hH:=ai (k:=0) aE aC;obtain⟨ah,ad⟩:=aj (B:=hH);exact Mh hT hI ho hτ c1 hx hm hc hz aa hg ag (by omega) an aA q1 q2 ao q3 ah ad hH (aq y r ty' s' nv cs aD hx hm hc aa hb)
 ·exact plain O
end
def YE:Option D->Bool
 | some (.sl true true 0 [])=>true
 | _=>false
def lM (φ:Ty) (f:Nat):List D:=putCells ((φ.zero.map lN).map canon) f [.nx 0 []]
def yM (T:Nat->Option Ty) (τ:Ty) (e d ty' s f:Nat) (l c:D):Option bF :=
 match τ.ds with
 | .slice el =>
  match T el,nc l,nc c with
  | some φ,some l,some c =>
   if l<=c∧c<=maxLen∧c*φ.bytes<=140737488355328∧0<φ.size∧(φ.zero.map lN).all fa=true∧φ.zero.length=φ.size∧d<PK∧YE ((φ.zero.map lN).drop f).head? = true then
    some ⟨.buf d e φ.size 0 l,[(d,some ⟨e,el,[.nr ty' s (4*e+2) (mA l (lM φ f))],false,true,true⟩)]⟩
   else none
  | _,_,_=>none
 | _=>none
def mkA (τ:Ty) (ty e d ty' s f:Nat):Option bF :=
 if 0<τ.size∧(τ.zero.map lN).all fa=true∧τ.zero.length=τ.size∧d<PK∧YE ((τ.zero.map lN).drop f).head? = true then
  some ⟨.ptr d e 0,[(d,some ⟨e,ty,[.nr ty' s (4*e+2) (lM τ f)],false,false,true⟩)]⟩
 else none
def gA (T:Nat->Option Ty) (Γ:Env) (e:Nat) (o:Oper) (vs:Operand->D):Option bF :=
 match o.op with
 | .makeSlice ty l c =>
  match o.dst with
  | some d =>
   match Γ.nst d with
   | some (ty',s,f)=>match T ty with|some τ=>yM T τ e d ty' s f (vs l) (vs c)|none=>none
   | none=>none
  | none=>none
 | .alloc ty =>
  match o.dst with
  | some d =>
   match Γ.nst d with
   | some (ty',s,f)=>match T ty with|some τ=>mkA τ ty e d ty' s f|none=>none
   | none=>none
  | none=>none
 | _=>none
section
variable {P:Program} {T:Nat->Option Ty} {N:Nat} {M:Nat->Prop} {L:jg} {w0:World} {blk:Nat->Option (Nat×Nat)} {V:Nat->Nat->Prop} {t:Nat->D} {h:Nat->Option Row} {a:Act} {w:World} {e:Nat} {o:Oper} {Γ:Env}
theorem Inv.addEmpty (X:Inv N M L w0 blk V t h a w) (S:Nat->Prop) (ty nv:Nat) (hS:∀k,S k->N<=k∧k≠0∧¬V k nv∧h k=none) {h':Nat->Option Row} {blk':Nat->Option (Nat×Nat)} (he:∀k,S k->h' k=some ⟨nv,ty,[],false,true,false⟩∧blk' k=none) (aa:∀k,¬S k->h' k=h k∧blk' k=blk k)
  (ah:∀y r g,h y=some r->r.mp=true->blk y=some g->∀j x s n:Nat,r.cells[j]? = some (D.ph x s n)->S x->∃u,w.cell? ⟨g.1,g.2+j,none⟩=some u∧n=0∧∃A,u=.slice A 0 0):Inv N M L w0 blk' V t h' a w:=by
 have hf:∀x r',h' x=some r'->(S x∧r'=⟨nv,ty,[],false,true,false⟩∧blk' x=none)∨(¬S x∧h x=some r'∧blk' x=blk x):=by
  intro x r' Z
  by_cases hs:S x
  ·rw[(he x hs).1]at Z;exact .inl ⟨hs,by simpa using Z.symm,(he x hs).2⟩
  ·rw[(aa x hs).1]at Z;exact .inr ⟨hs,Z,(aa x hs).2⟩
 have ho:∀b,¬Own M h blk b->¬Own M h' blk' b:=by
  intro b hb ab;rcases ab with ab|⟨x,r',g,Z,hz,U,e⟩
  ·exact hb (.inl ab)
  ·rcases hf x r' Z with⟨_,_,O⟩|⟨_,Y,O⟩
   ·rw[O]at U;cases U
   ·exact hb (.inr ⟨x,r',g,Y,hz,O ▸ U,e⟩)
 have ae:Gh w w (Own M h blk) (Own M h' blk') h h' blk blk' V V:=⟨fun b h1 h2=>⟨h1,ho b h2,rfl⟩,fun _ _ h=>h,fun x v hv r' h1 h2=>by
  rcases hf x r' h1 with⟨k1,rfl,_⟩|⟨_,Y,O⟩
  ·simp only at h2;subst h2;exact absurd hv (hS x k1).2.2.1
  ·exact⟨⟨r',Y,h2⟩,O,fun _ _=>rfl⟩⟩
 exact {
  tab:=X.tab.keep fun b h1 h2=>⟨h1,ho b h2,rfl⟩
  below:=X.below
  mlt:=X.mlt
  lent:=X.lent
  pin:=fun go U=>⟨(X.pin go U).1,fun r' hr hv=>by
   rcases hf 0 r' hr with⟨k1,_⟩|⟨_,Y,O⟩
   ·exact absurd rfl (hS 0 k1).2.1
   ·rw[O];exact (X.pin go U).2 r' Y hv⟩
  defers:=X.defers
  tsz:=X.tsz
  slots:=fun i=>(X.slots i).mono ae
  rows:=fun x r' Z=>by
   rcases hf x r' Z with⟨k1,rfl,O⟩|⟨_,Y,O⟩
   ·rw[O];exact⟨fun hn=>by have:=(hS x k1).1;omega,rfl⟩
   ·obtain⟨h1,h2⟩:=X.rows x r' Y;rw[O];refine⟨h1,?_⟩;cases hb:blk x with
    | none=>rw[hb]at h2;exact h2
    | some g =>
     rw[hb]at h2;exact⟨h2.1,h2.2.keep rfl rfl rfl rfl fun b q1 q2=>⟨q1,ho b q2,rfl⟩⟩
  inj:=fun x y r s g g' Z hy U ad e=>by
   rcases hf x r Z with⟨_,_,O⟩|⟨_,Y,O⟩
   ·rw[O]at U;cases U
   rcases hf y s hy with⟨_,_,q3⟩|⟨_,q2,q3⟩
   ·rw[q3]at ad;cases ad
   exact X.inj x y r s g g' Y q2 (O ▸ U) (q3 ▸ ad) e
  big:=X.big
  pha:=fun y r' g hy hm U j x s n hc=>by
   rcases hf y r' hy with⟨_,rfl,O⟩|⟨_,Y,O⟩
   ·rw[O]at U;cases U
   rw[O]at U;obtain⟨h0,u,q1,q2⟩:=X.pha y r' g Y hm U j x s n hc;refine⟨h0,u,q1,?_⟩
   by_cases hs:S x
   ·obtain⟨u',p1,p2,p3⟩:=ah y r' g Y hm U j x s n hc hs;rw[q1]at p1;cases p1;exact fun ag _ =>.inr ⟨(he x hs).2,p2,p3⟩
   ·exact fun ag q3=>by
     rw[(aa x hs).2];exact q2 ag ((aa x hs).1 ▸ q3)
  ali:=fun y r' g hy hz ai U j c d' hj aj=>by
   rcases hf y r' hy with⟨_,rfl,O⟩|⟨_,Y,O⟩
   ·rw[O]at U;cases U
   rw[O]at U;obtain⟨u,q1,q2⟩:=X.ali y r' g Y hz ai U j c d' hj aj;exact⟨u,q1,q2.mono ae⟩ }
theorem xI (d:Nat) (U:d<PK):BO (EH h) (EH (bI h d none)):=by
 intro k r' hk
 by_cases O:rt k=d
 ·rcases nF O with rfl|⟨o,rfl⟩
  ·rw[qK (by have:=cv;omega),aq]at hk;cases hk
  ·rw[qJ U,aq]at hk;cases hk
 ·exact⟨r',by rw[<- hk];exact dZ (av _ _ O).symm,.refl _⟩
theorem TU {v:Value} (h:lN v=.sl true true 0 []):v=.slice none 0 0:=by
 unfold lN at h;split at h<;>first|rfl|cases h
open Classical in
theorem XH (hT:ig P T) (hI:Inv N M L w0 blk V t (EH h) a w) {ty d ty' s f:Nat} {l c:Operand} {τ:Ty} {E:bF} (ho:o.op=.makeSlice ty l c) (hd:o.dst=some d) (hV:iR N V d e) (aA:∀o,¬V (NK d o) (4*e+2)) (hτ:T ty=some τ)
  (hE:yM T τ e d ty' s f (ev t l) (ev t c)=some E):dY P o a w (je N M L w0 V t h a e o.dst E):=by
 have aB:=hI.ev l;have aC:=hI.ev c;have aK:=hI.big;have aM:=cv;obtain⟨dd,aa,hc⟩:=under hT hτ;unfold yM at hE;split at hE<;>try (cases hE;done)
 rename_i el aD;rw[aD]at hc;have:=fM hc;subst this;split at hE<;>try (cases hE;done)
 rename_i φ n k hφ hn hk;split at hE<;>try (cases hE;done)
 rename_i ak;obtain⟨c1,c2,c3,c4,c5,c6,U,c8⟩:=ak;simp only[agL]at hE;subst hE;obtain⟨q1,hl⟩:=va hn aB;obtain⟨q2,aE⟩:=va hk aC;obtain⟨d',i,z,g1,g2,g3,g4,g5,g6,g7⟩:=(hT el φ hφ).get;have hb:(i.bytes:Int)*(k:Int)<=281474976710656:=by
  have:((i.bytes*k:Nat):Int)<=281474976710656:=by
   rw[g5,ahC];omega
  rwa [ahD]at this
 have au:(k:Int)<=9223372036854775807:=by
  simp only[maxLen]at c2;omega
 have ab:=run_make (P:=P) w ty el i z aa g3 g6 q1 q2 n k (by omega) (by omega) hb au;simp only[Int.toNat_natCast]at ab;have aN:(φ.zero.map lN).length=φ.size:=by rw[ag6,c6]
 have hf:f<φ.size:=by
  rw[ajl]at c8;rcases ahn f φ.size with al|aO
  ·exact al
  ·rw[aij (by omega)]at c8;cases c8
 have aw:(φ.zero.map lN)[f]? = some (.sl true true 0 []):=by
  rw[ajl]at c8;unfold YE at c8;split at c8
  ·assumption
  ·cases c8
 have ax:(lM φ f).length=φ.size:=by
  unfold lM;rw[jy (by simp;omega)];simp[c6]
 have ah:∀(m:Nat) (x:D),(lM φ f)[m]? = some x->(m=f∧x=.nx 0 [])∨(m≠f∧∃y,(φ.zero.map lN)[m]? = some y∧x=canon y):=by
  intro m x hm;unfold lM at hm
  by_cases an:m=f
  ·subst an;rw[fD (by simp;omega)]at hm;exact .inl ⟨rfl,by simpa using hm.symm⟩
  ·rw[gG (by simp;omega) an,agz,agA]at hm;obtain⟨y,h1,h2⟩:=hm;exact .inr ⟨an,y,h1,h2.symm⟩
 generalize ay:madeCells z.cells (k*i.size)=vs at ab;have aF:vs.size=k*φ.size:=by rw[<- ay];simp[madeCells,g4]
 have ai:∀j,j<k*φ.size->vs.getD j undef=φ.zero.toArray.getD (j % φ.size) undef:=by
  intro j O;rw[<- ay,g7,g4,<- c6];have:=uA φ.zero k j (by rw[c6];exact O);simpa [madeCells,List.getD] using this
 have ao:∀(j:Nat) (x:D),(mA n (lM φ f))[j]? = some x->j<n*φ.size∧(lM φ f)[j % φ.size]? = some x:=by
  intro j x O;have:=B2 _ _ _ _ O
  rwa [ax]at this
 have aP:n*φ.size<=k*φ.size:=ahp _ c1;have aj:∀(M':Nat->Prop) (w':World) (j:Nat) (x:D),(mA n (lM φ f))[j]? = some x->fa x=true->RP w' M' x (vs.getD j undef):=by
  intro M' w' j x O aG;obtain⟨r1,r2⟩:=ao j x O;rw[ai j (by omega)];rcases ah _ x r2 with⟨_,rfl⟩|⟨_,y,h1,rfl⟩
  ·cases aG
  ·exact (pL (w:=w') (M:=M') φ.zero (agN.2 fun y hy=>(fb (agN.1 c5 y hy)).1) _ y h1).2.canon
 have Y:∀(j:Nat) (n':Nat) (xs:List D),(mA n (lM φ f))[j]? = some (.nx n' xs)->n'=0∧xs=[]∧vs.getD j undef=.slice none 0 0:=by
  intro j n' xs O;obtain⟨r1,r2⟩:=ao j _ O;rcases ah _ _ r2 with⟨hm,he⟩|⟨_,y,h1,he⟩
  ·simp only[D.nx.injEq]at he;refine⟨he.1,he.2,?_⟩;rw[ai j (by omega),hm];rw[agz,agA]at aw;obtain⟨v,v1,v2⟩:=aw;simp only[agH,List.getElem?_toArray,v1,Option.getD_some];exact TU v2
  ·have:=agN.1 c5 y (ag4 h1);cases y<;>first|(cases he;done)|(cases this;done)
 generalize aH:mA n (lM φ f)=cs at ao aj Y;have aQ:cs.length=n*φ.size:=by rw[<- aH,p6,ax]
 have hA:=hI.le (xI (h:=h) d U);have hold:∀b,b<w.heap.size->(w.alloc (.cells vs el)).heap[b]? = w.heap[b]?:=fun b hb=>Below.heap_alloc w _ b hb;have ae:=(Below.refl w.heap.size w).alloc (agC _) (.cells vs el);have Z:=heap_alloc_new w (.cells vs el);have ar:∀o,EH (bI h d none) (NK d o)=none:=fun o=>by rw[qJ U,aq];rfl
 have ad:∀o,NK d o≠d:=fun o=>by have:=eS d o;omega
 have hB:=hA.Cp (w':=w.alloc (.cells vs el)) (h1:=EH (bI h d none)) (old:=none) (d:=d) (e:=e) (r0:=⟨e,el,cs.mapIdx (pO d s),false,true,true⟩) (go:=some (w.heap.size,0)) ae.os ae.tape ae.output ae.size (fun k hk _=>hold k hk) (fun y hy=>by cases hy) rfl hV
  ⟨.inl (agC _),.inr ⟨fun x hx=>by
   obtain⟨j,O⟩:=agY hx;simp only[ajn,agA]at O;obtain⟨d0,X,rfl⟩:=O;exact ky _ _ _ _,vs,Z,by simp only[ajm];omega,fun j x O=>by
   simp only[ajn,agA]at O;obtain⟨d0,X,rfl⟩:=O;rw[ahr]
   by_cases aa:fa d0=true
   ·rw[jD aa];exact (fb aa).2.2.2 (aj _ _ j d0 X aa)
   ·cases d0<;>first|trivial|exact absurd rfl aa⟩⟩ rfl rfl (fun _ g hg j x s' n' O=>by
   cases hg;simp only[ajn,agA]at O;obtain⟨d0,X,he⟩:=O;obtain⟨xs,rfl,rfl,rfl⟩:=pH he;have al:=(ag5.1 X).1;refine⟨⟨U,.inr rfl⟩,_,aT Z (by omega),fun r hr =>?_⟩;rw[av _ _ (ad j),ar]at hr;cases hr)
 obtain⟨S,hS⟩:∃S:Nat->Prop,∀k,S k↔∃o xs,k=NK d o∧cs[o]? = some (.nx 0 xs):=⟨_,fun _=>Iff.rfl⟩;have hC:=hB.addEmpty S ty' (4*e+2) (h':=EH (bI h d (some ⟨e,el,[.nr ty' s (4*e+2) cs],false,true,true⟩))) (blk':=fun k=>if S k then none else bI blk d (some (w.heap.size,0)) k) (fun k hk=>by
   obtain⟨o',xs,rfl,ag⟩:=(hS k).1 hk;have:=eS d o';refine⟨by omega,by omega,?_,by rw[av _ _ (ad o'),ar]⟩;rintro (hv|⟨he,_⟩)
   ·exact aA o' hv
   ·exact ad o' he) (fun k hk=>by
   refine⟨?_,by rw[if_pos hk]⟩;obtain⟨o',xs,rfl,ag⟩:=(hS k).1 hk;rw[eH (aq _ _ _) rfl rfl U,ag];obtain⟨_,rfl,_⟩:=Y o' 0 xs ag;rfl) (fun k hk=>by
   refine⟨?_,by rw[if_neg hk]⟩
   by_cases hkd:rt k=d
   ·rcases nF hkd with rfl|⟨o',rfl⟩
    ·rw[aq,fG (aq _ _ _) rfl rfl U]
    ·rw[av _ _ (ad o'),ar,eH (aq _ _ _) rfl rfl U];cases az:cs[o']? with
     | none=>rfl
     | some d0 =>
      cases d0 with
      | nx n' xs =>
       obtain⟨rfl,_,_⟩:=Y o' n' xs az;exact absurd ((hS _).2 ⟨o',xs,rfl,az⟩) hk
      | _=>rfl
   ·rw[av _ _ (fun e=>hkd (by rw[e,gQ (by omega)]))];exact dZ (by rw[av _ _ hkd,av _ _ hkd])) (fun y r g hy hm hg j x s' n' O hs=>by
   obtain⟨o',xs,rfl,ag⟩:=(hS _).1 hs;obtain⟨⟨p1,p2⟩,u,p3,_⟩:=hB.pha y r g hy hm hg j _ s' n' O;rcases p2 with p2|p2
   ·have:=eS d o';omega
   obtain⟨rfl,rfl⟩:=rG U p1 p2;rw[aq]at hy hg;cases hy;cases hg;simp only[ajn,agA]at O;obtain⟨d0,X,he⟩:=O;obtain⟨aI,rfl,_,rfl⟩:=pH he;obtain⟨k1,_,k3⟩:=Y o' n' aI X;have al:=(ag5.1 X).1;refine⟨_,aT Z (by omega),k1,none,?_⟩;rw[ahr];exact k3)
 have aJ:¬S d:=fun hs=>by
  obtain⟨o',_,he,_⟩:=(hS d).1 hs;exact ad o' he.symm
 refine aL (v := .slice (some ⟨w.heap.size,0,none⟩) n k) (w':=w.alloc (.cells vs el)) ?_ ⟨fun k=>if S k then none else bI blk d (some (w.heap.size,0)) k,?_,?_⟩
 ·simp[execOp,ho,hl,aE,ab]
 ·refine hC.weaken fun x v hx =>?_;rcases hx with hx|⟨rfl,rfl⟩
  ·exact .inl hx
  ·exact .inr ⟨hd,rfl⟩
 ·exact rI (g:=(w.heap.size,0)) (.inr ⟨hd,rfl⟩) (by rw[if_neg aJ,aq]) Z c1 c2 (by rw[aF];simp)
end
section
variable {P:Program} {T:Nat->Option Ty} {N:Nat} {M:Nat->Prop} {L:jg} {w0:World} {blk:Nat->Option (Nat×Nat)} {V:Nat->Nat->Prop} {t:Nat->D} {h:Nat->Option Row} {a:Act} {w:World} {e:Nat} {o:Oper} {Γ:Env}
theorem Inv.acv (X:Inv N M L w0 blk V t h a w) (S:Nat->Prop) {w':World} {h':Nat->Option Row} {blk':Nat->Option (Nat×Nat)} {V':Nat->Nat->Prop} (hVV:∀x v,V x v->V' x v)
  (av:w'.os=w.os) (ae:w'.tape=w.tape) (al:w'.output=w.output) (ag:w.heap.size<=w'.heap.size)
  (hblock:∀k,k<w.heap.size->(∀x r g,S x->h x=some r->blk x=some g->k≠g.1)->w'.heap[k]? = w.heap[k]?)
  (hfz:∀x r,S x->h x=some r->r.fz=false)
  (aa:∀x,¬S x->h' x=h x∧blk' x=blk x)
  (ah:∀x r,S x->h' x=some r->r.fz=false∧(x<N->V' x r.v)∧(match blk' x with
   | some g=>(w.heap.size<=g.1∨∃y s g0,S y∧h y=some s∧blk y=some g0∧g.1=g0.1)∧dU w' (Own M h' blk') g r
   | none=>r.cells=[]))
  (an:∀x y r s g g',S x->S y->h' x=some r->h' y=some s->blk' x=some g->blk' y=some g'->g.1=g'.1->x=y)
  (ai:∀x r,S x->V x r.v->h' x=some r->(∃r0,h x=some r0∧r0.v=r.v)∧blk' x=blk x∧∀g,blk x=some g->w'.shape? g.1=w.shape? g.1)
  (ao:∀y r g,S y->h' y=some r->r.mp=true->blk' y=some g->∀j x s n:Nat,r.cells[j]? = some (D.ph x s n)->P9 y j x∧∃u,w'.cell? ⟨g.1,g.2+j,none⟩=some u∧PhR w' h' blk' x s n u)
  (aw:∀y r (j x s n:Nat),¬S y->h y=some r->r.mp=true->r.cells[j]? = some (D.ph x s n)->¬S x) :
  Inv N M L w0 blk' V' t h' a w':=by
 have hother:∀x r g,¬S x->h x=some r->blk x=some g->w'.heap[g.1]? = w.heap[g.1]?:=fun x r g hs U O=>hblock _ (X.lt U O) (fun y r' g' hy ax Y e=>hs (by rw[X.inj x y r r' g g' U ax O Y e];exact hy));have aj:∀b,b<w.heap.size->¬Own M h blk b->w'.heap[b]? = w.heap[b]?:=fun b hb hn=>hblock b hb fun x r g hs U O he=>hn (.inr ⟨x,r,g,U,hfz x r hs U,O,he.symm⟩);have hold:∀x r g,h' x=some r->blk' x=some g->w.heap.size<=g.1∨∃y s g0,h y=some s∧blk y=some g0∧g.1=g0.1∧(S y↔S x)∧(s.fz=false∨s=r)∧(S x∨y=x):=by
  intro x r g U O
  by_cases hs:S x
  ·have:=(ah x r hs U).2.2;rw[O]at this;rcases this.1 with k|⟨y,s,g0,k1,Z,k3,k4⟩
   ·exact .inl k
   ·exact .inr ⟨y,s,g0,Z,k3,k4,⟨fun _=>hs,fun _=>k1⟩,.inl (hfz y s k1 Z),.inl hs⟩
  ·obtain⟨k1,Z⟩:=aa x hs;exact .inr ⟨x,r,g,by rw[<- k1];exact U,by rw[<- Z];exact O,rfl,Iff.rfl,.inr rfl,.inr rfl⟩
 have aq:∀b,b<w.heap.size->¬Own M h blk b->¬Own M h' blk' b:=by
  intro b hb hn ak;rcases ak with ak|⟨x,r,g,U,hz,O,he⟩
  ·exact hn (.inl ak)
  ·rcases hold x r g U O with k|⟨y,s,g0,k1,Z,k3,_,k4,_⟩
   ·omega
   ·exact hn (.inr ⟨y,s,g0,k1,k4.elim id (fun e=>by rw[e];exact hz),Z,by rw[<- k3,he]⟩)
 have hk:∀b,b<w.heap.size->¬Own M h blk b->b<w'.heap.size∧¬Own M h' blk' b∧w'.heap[b]? = w.heap[b]?:=fun b h1 h2=>⟨by omega,aq b h1 h2,aj b h1 h2⟩;have ar:∀x v,V x v->∀r',h' x=some r'->r'.v=v->(∃r,h x=some r∧r.v=v)∧blk' x=blk x∧∀g,blk x=some g->w'.shape? g.1=w.shape? g.1:=by
  intro x v hv r' U hr
  by_cases hs:S x
  ·subst hr;exact ai x r' hs hv U
  ·obtain⟨k1,Z⟩:=aa x hs;rw[k1]at U;exact⟨⟨r',U,hr⟩,Z,fun g O=>cG (hother x r' g hs U O)⟩
 have au:Gh w w' (Own M h blk) (Own M h' blk') h h' blk blk' V V':=⟨hk,hVV,ar⟩;exact {
  tab:=X.tab.keep hk
  below:=X.below.trans (L':=fun k=>∃x r g,S x∧h x=some r∧blk x=some g∧k=g.1) ⟨av,ae,al,ag,fun k ay hn=>hblock k ay (fun x r g hs U O he=>hn ⟨x,r,g,hs,U,O,he⟩)⟩ (fun k ⟨x,r,g,hs,U,O,he⟩ aA=>by
   rcases X.base U O with hb|hb
   ·omega
   ·rw[he];exact hb)
  mlt:=X.mlt
  lent:=X.lent
  pin:=fun p hp=>⟨hVV _ _ (X.pin p hp).1,fun r hr hv=>by
   obtain⟨⟨r0,k1,Z⟩,k3,k4⟩:=ar 0 0 (X.pin p hp).1 r hr hv;obtain⟨q1,q2⟩:=(X.pin p hp).2 r0 k1 Z;exact⟨k3.trans q1,fun g O=>(k4 g (q1.trans O)).trans (q2 g O)⟩⟩
  defers:=X.defers
  tsz:=X.tsz
  slots:=fun i=>(X.slots i).mono au
  rows:=fun x r U=>by
   by_cases hs:S x
   ·obtain⟨k1,Z,k3⟩:=ah x r hs U;refine⟨Z,?_⟩;cases O:blk' x with
    | none=>rw[O]at k3;exact k3
    | some g =>
     rw[O]at k3;refine⟨?_,k3.2⟩;rcases k3.1 with q|⟨y,s,g0,_,q2,q3,q4⟩
     ·exact .inl (agE X.below.size q)
     ·rw[q4];exact X.base q2 q3
   ·obtain⟨k1,Z⟩:=aa x hs;rw[k1]at U;rw[Z];exact⟨fun hn=>hVV _ _ ((X.rows x r U).1 hn),(X.rows x r U).2.keep (fun g O=>hother x r g hs U O) hk⟩
  inj:=fun x y r s g g' U hy O Y he=>by
   by_cases ab:S x
   ·by_cases ad:S y
    ·exact an x y r s g g' ab ad U hy O Y he
    ·exfalso;obtain⟨k1,Z⟩:=aa y ad;rw[k1]at hy;rw[Z]at Y;rcases hold x r g U O with k|⟨z,s0,g0,q1,q2,q3,q4,_⟩
     ·have:=X.lt hy Y;omega
     ·have:=X.inj z y s0 s g0 g' q1 hy q2 Y (q3.symm.trans he);subst this;exact ad (q4.2 ab)
   ·obtain⟨k1,Z⟩:=aa x ab;rw[k1]at U;rw[Z]at O
    by_cases ad:S y
    ·exfalso;rcases hold y s g' hy Y with k|⟨z,s0,g0,q1,q2,q3,q4,_⟩
     ·have:=X.lt U O;omega
     ·have:=X.inj z x s0 r g0 g q1 U q2 O (q3.symm.trans he.symm);subst this;exact ab (q4.2 ad)
    ·obtain⟨k3,k4⟩:=aa y ad;rw[k3]at hy;rw[k4]at Y;exact X.inj x y r s g g' U hy O Y he
  big:=X.big
  pha:=fun y r g hy hm O j x s n hc=>by
   by_cases hs:S y
   ·exact ao y r g hs hy hm O j x s n hc
   ·obtain⟨k1,Z⟩:=aa y hs;rw[k1]at hy;rw[Z]at O;obtain⟨h0,u,q1,q2⟩:=X.pha y r g hy hm O j x s n hc;have ab:=aw y r j x s n hs hy hm hc;obtain⟨k3,k4⟩:=aa x ab;exact⟨h0,u,(agy (a:=⟨g.1,g.2+j,none⟩) (hother y r g hs hy O)).trans q1,q2.mono fun r' g1=>by
     rw[k3]at g1;exact⟨⟨r',g1⟩,k4,fun g' Y=>cG (hother x r' g' ab g1 Y)⟩⟩
  ali:=fun y r g hy hz hl O j c d' hj az=>by
   by_cases hs:S y
   ·rw[(ah y r hs hy).1]at hz;cases hz
   ·obtain⟨k1,Z⟩:=aa y hs;rw[k1]at hy;rw[Z]at O;obtain⟨u,q1,q2⟩:=X.ali y r g hy hz hl O j c d' hj az;exact⟨u,(agy (a:=⟨g.1,g.2+j,none⟩) (hother y r g hs hy O)).trans q1,q2.mono au⟩ }
theorem Sc {h:Nat->Option Row} {k:Nat} (hk:h (rt k)=none):EH h k=none:=by
 have:=dZ (h:=h) (h':=fun _=>none) (k:=k) hk;rw[this];unfold EH;split<;>rfl
theorem eA {h:Nat->Option Row} {x k:Nat} {r r':Row} {ty s nv:Nat} {cs:List D} (O:h x=some r) (hm:r.mp=true) (U:r.cells=[.nr ty s nv cs]) (X:x<PK) (hk:rt k=x) (he:EH h k=some r') :
  (k=x∧r'=⟨r.v,r.ty,cs.mapIdx (pO x s),r.fz,r.lst,true⟩)∨∃o n xs,k=NK x o∧cs[o]? = some (.nx n xs)∧r'=⟨nv,ty,xs,r.fz,true,false⟩:=by
 rcases nF hk with rfl|⟨o,rfl⟩
 ·rw[fG O hm U X]at he;exact .inl ⟨rfl,by simpa using he.symm⟩
 ·rw[eH O hm U X]at he;unfold Ef at he;split at he
  ·rename_i n xs Y;exact .inr ⟨o,n,xs,rfl,Y,by simpa using he.symm⟩
  ·cases he
theorem yt {x:Nat} (O:x<PK):rt x=x:=gQ (by have:=cv;omega)
theorem abc {r r':Row} {k:Nat} (he:EH (mC r) k=some r'):rt k=0:=by
 by_cases hk:rt k=0
 ·exact hk
 ·rw[Sc (by unfold mC;rw[if_neg hk])]at he;cases he
theorem mf:0<PK:=by rw[cv];decide
theorem iO {k ty t s nv:Nat} {cs:List D} {r':Row} (he:EH (mC (iV ty t s nv cs)) k=some r') :
  (k=0∧r'=⟨0,ty,cs.mapIdx (pO 0 s),false,true,true⟩)∨∃o n xs,k=NK 0 o∧cs[o]? = some (.nx n xs)∧r'=⟨nv,t,xs,false,true,false⟩ :=
 eA (r:=iV ty t s nv cs) rfl rfl rfl mf (abc he) he
theorem uh {ty t s nv:Nat} {cs:List D} : EH (mC (iV ty t s nv cs)) 0=some ⟨0,ty,cs.mapIdx (pO 0 s),false,true,true⟩ :=
 fG (r:=iV ty t s nv cs) rfl rfl rfl mf
theorem ss {ty t s nv o n:Nat} {cs xs:List D} (O:cs[o]? = some (.nx n xs)):EH (mC (iV ty t s nv cs)) (NK 0 o)=some ⟨nv,t,xs,false,true,false⟩:=by
 rw[eH (r:=iV ty t s nv cs) rfl rfl rfl mf,O];rfl
def VD (x k:Nat):Nat:=@ite _ (k<2*PK) (ltB k (2*PK)) x (NK x (k / PK-2))
theorem qG (x:Nat):VD x 0=x:=if_pos (by have:=cv;omega)
theorem nZ (x o:Nat):VD x (NK 0 o)=NK x o:=by
 unfold VD;rw[if_neg (by have:=eS 0 o;omega),Ch o mf]
def pN (blk:Nat->Option (Nat×Nat)) (x k:Nat):Option (Nat×Nat):=blk (VD x k)
def InX (blk:Nat->Option (Nat×Nat)) (h:Nat->Option Row) (x b:Nat):Prop:=∃k r g,rt k=x∧EH h k=some r∧blk k=some g∧g.1=b
theorem Jp {h:Nat->Option Row} {x:Nat} {r:Row} {ty s nv:Nat} {cs:List D} (U:h x=some r) (hm:r.mp=true) (X:r.cells=[.nr ty s nv cs]) (O:x<PK) (b:Nat):uN (pN blk x) (EH (mC (iV r.ty ty s 0 cs))) b↔InX blk h x b:=by
 constructor
 ·rintro⟨k,r',g,h1,h2,h3⟩;rcases iO h1 with⟨rfl,_⟩|⟨o,n,xs,rfl,Y,_⟩
  ·rw[pN,qG]at h2;exact⟨x,_,g,yt O,fG U hm X O,h2,h3⟩
  ·rw[pN,nZ]at h2;exact⟨NK x o,_,g,sO O,by rw[eH U hm X O,Y];rfl,h2,h3⟩
 ·rintro⟨k,r',g,Z,h1,h2,h3⟩;rcases eA U hm X O Z h1 with⟨rfl,_⟩|⟨o,n,xs,rfl,Y,_⟩
  ·exact⟨0,_,g,uh,by rw[pN,qG];exact h2,h3⟩
  ·exact⟨NK 0 o,_,g,ss Y,by rw[pN,nZ];exact h2,h3⟩
theorem Inv.ac4 (hI:Inv N M L w0 blk V t (EH h) a w) {x:Nat} {r:Row} {ty s nv:Nat} {cs:List D} (hx:h x=some r) (hm:r.mp=true) (hc:r.cells=[.nr ty s nv cs]) (hz:r.fz=false) (Z:x<PK) {Q:Nat->Prop} (hQ:∀b,Q b->Own M (EH h) blk b) :
  Gj w Q (pN blk x) (EH (mC (iV r.ty ty s 0 cs))) where
 rows k r' hk:=by
  rcases iO hk with⟨rfl,rfl⟩|⟨o,n,xs,rfl,ho,rfl⟩
  ·rw[pN,qG];cases O:blk x with
   | none =>
    have:=(hI.rows x _ (fG hx hm hc Z)).2;rw[O]at this;have h1:cs.mapIdx (pO x s)=[]:=this;have h2:cs.length=0:=by
     have:=congrArg List.length h1;simpa using this
    show cs.mapIdx (pO 0 s)=[];rw[ahX h2];rfl
   | some g =>
    obtain⟨arr,k1,k2,k3⟩:=hI.AU hx hm hc Z O;refine .inr ⟨fun d hd =>?_,arr,k1,by simpa using k2,fun j d U =>?_⟩
    ·obtain⟨j,U⟩:=agY hd;simp only[ajn,agA]at U;obtain⟨d0,X,rfl⟩:=U;exact ky _ _ _ _
    ·simp only[ajn,agA]at U;obtain⟨d0,X,rfl⟩:=U
     by_cases Y:fa d0=true
     ·rw[jD Y];exact (fb Y).2.2.2 ((k3 j d0 X Y).less hQ)
     ·cases d0<;>first|trivial|exact absurd rfl Y
  ·rw[pN,nZ];have hq:EH h (NK x o)=some ⟨nv,ty,xs,r.fz,true,false⟩:=by rw[eH hx hm hc Z,ho];rfl
   have:=(hI.rows _ _ hq).2;cases O:blk (NK x o) with
   | none=>rw[O]at this;exact this
   | some g =>
    rw[O]at this;obtain⟨arr,k1,k2,k3⟩:=this.2;exact⟨arr,k1,k2,fun j d U=>⟨(k3 j d U).1,(k3 j d U).2.less hQ⟩⟩
 inj k l r1 r2 g g' hk hl O aa he:=by
  have key:∀ {k:Nat} {r1:Row} {g:Nat×Nat},EH (mC (iV r.ty ty s 0 cs)) k=some r1->pN blk x k=some g->∃r2,EH h (VD x k)=some r2∧blk (VD x k)=some g:=by
   intro k r1 g hk O;rcases iO hk with⟨rfl,_⟩|⟨o,n,xs,rfl,ho,_⟩
   ·exact⟨_,by rw[qG];exact fG hx hm hc Z,O⟩
   ·exact⟨_,by rw[nZ,eH hx hm hc Z,ho];rfl,O⟩
  obtain⟨q1,k1,k2⟩:=key hk O;obtain⟨q2,k3,k4⟩:=key hl aa;have e1:=hI.inj _ _ _ _ _ _ k1 k3 k2 k4 he;rcases iO hk with⟨rfl,_⟩|⟨o,n,xs,rfl,ho,_⟩
  ·rcases iO hl with⟨rfl,_⟩|⟨o',n',ab,rfl,ad,_⟩
   ·rfl
   ·rw[qG,nZ]at e1;have:=eS x o';have:=cv;omega
  ·rcases iO hl with⟨rfl,_⟩|⟨o',n',ab,rfl,ad,_⟩
   ·rw[qG,nZ]at e1;have:=eS x o;have:=cv;omega
   ·rw[nZ,nZ]at e1;rw[(rG Z Z e1).2]
 pha k r' g hk ae O j x' s' n U:=by
  rcases iO hk with⟨rfl,rfl⟩|⟨o,n,xs,rfl,ho,rfl⟩;rotate_left
  ·cases ae
  rw[pN,qG]at O;simp only[ajn,agA]at U;obtain⟨d0,X,he⟩:=U;obtain⟨ag,rfl,rfl,rfl⟩:=pH he;obtain⟨u,k1,k2⟩:=hI.Ei hx hm hc Z O X;refine⟨⟨mf,.inr rfl⟩,u,k1,fun _ _ =>?_⟩;unfold pN;rw[nZ];exact k2
def FJ (x k:Nat):Nat:=if k=x then 0 else NK 0 (k / PK-2)
theorem s8 (x:Nat):FJ x x=0:=if_pos rfl
theorem kp {x:Nat} (O:x<PK) (o:Nat):FJ x (NK x o)=NK 0 o:=by
 unfold FJ;rw[if_neg (by have:=eS x o;have:=cv;omega),Ch o O]
def nC (blk O:Nat->Option (Nat×Nat)) (x k:Nat):Option (Nat×Nat):=if rt k=x then O (FJ x k) else blk k
theorem Inv.back (hI:Inv N M L w0 blk V t (EH h) a w) {x:Nat} {r:Row} {ty s nv ad:Nat} {cs cs':List D} {g0:Nat×Nat} (hx:h x=some r) (hm:r.mp=true) (hc:r.cells=[.nr ty s nv cs]) (hz:r.fz=false) (Y:x<PK)
  (hV:∀o,¬V (NK x o) ad) (ax:blk x=some g0) {w':World} {O:Nat->Option (Nat×Nat)} {M':Nat->Prop} {h1:Nat->Option Row} (aD:h1=EH (mC (iV r.ty ty s 0 cs'))) (ay:∀b,M' b↔Own M (EH h) blk b∧¬InX blk h x b)
  (hb:ey (InX blk h x) w w') (h0:O 0=some g0) (aE:w'.shape? g0.1=w.shape? g0.1) (az:∀b,uN O h1 b->w.heap.size<=b∨InX blk h x b) (hR:Gj w' (fun b=>M' b∨uN O h1 b) O h1) :
  Inv N M L w0 (nC blk O x) V t (EH (bI h x (some ⟨r.v,r.ty,[.nr ty s ad cs'],false,r.lst,true⟩))) a w'∧∀b,Own M (EH (bI h x (some ⟨r.v,r.ty,[.nr ty s ad cs'],false,r.lst,true⟩))) (nC blk O x) b->M' b∨uN O h1 b:=by
 generalize aA:bI h x (some (⟨r.v,r.ty,[.nr ty s ad cs'],false,r.lst,true⟩:Row))=h2;have Z:h2 x=some ⟨r.v,r.ty,[.nr ty s ad cs'],false,r.lst,true⟩:=by rw[<- aA,aq]
 have al:∀k,rt k≠x->EH h2 k=EH h k:=fun k hk=>dZ (by rw[<- aA,av _ _ hk]);have an:∀k,rt k≠x->nC blk O x k=blk k:=fun k hk=>if_neg hk;have ai:nC blk O x x=O 0:=by unfold nC;rw[if_pos (yt Y),s8]
 have ao:∀o,nC blk O x (NK x o)=O (NK 0 o):=fun o=>by unfold nC;rw[if_pos (sO Y),kp Y]
 subst aD;have aa:∀k r',rt k=x->EH h2 k=some r'->∃r1,EH (mC (iV r.ty ty s 0 cs')) (FJ x k)=some r1∧nC blk O x k=O (FJ x k):=by
  intro k r' hk he;have hq:nC blk O x k=O (FJ x k):=if_pos hk;rcases eA Z rfl rfl Y hk he with⟨rfl,_⟩|⟨o,n,xs,rfl,ho,_⟩
  ·rw[s8]at hq ⊢;exact⟨_,uh,hq⟩
  ·rw[kp Y]at hq ⊢;exact⟨_,ss ho,hq⟩
 have ae:∀b,Own M (EH h2) (nC blk O x) b->M' b∨uN O (EH (mC (iV r.ty ty s 0 cs'))) b:=by
  intro b aj;rcases aj with aj|⟨k,r',g,hk,aF,X,he⟩
  ·refine .inl ((ay b).2 ⟨.inl aj,?_⟩);rintro⟨k,r',g,_,q1,q2,q3⟩;exact hI.notM q1 q2 (by rw[q3];exact aj)
  ·by_cases ak:rt k=x
   ·obtain⟨r1,q1,q2⟩:=aa k r' ak hk;exact .inr ⟨_,r1,g,q1,by rw[<- q2];exact X,he⟩
   ·rw[al k ak]at hk;rw[an k ak]at X;refine .inl ((ay b).2 ⟨.inr ⟨k,r',g,hk,aF,X,he⟩,?_⟩);rintro⟨l,s',g',q0,q1,q2,q3⟩;have:=hI.inj k l r' s' g g' hk q1 X q2 (he.trans q3.symm);subst this;exact ak q0
 refine⟨?_,ae⟩;have aB:∀k r',rt k=x->EH h k=some r'->r'.fz=false:=by
  intro k r' hk he;rcases eA hx hm hc Y hk he with⟨_,rfl⟩|⟨o,n,xs,_,_,rfl⟩<;>exact hz
 refine hI.acv (fun k=>rt k=x) (fun _ _ h=>h) hb.os hb.tape hb.output hb.size (fun k hk hn=>hb.block k hk ?_) aB (fun k hk=>⟨al k hk,an k hk⟩) ?_ ?_ ?_ ?_ ?_
 ·rintro⟨l,r',g,q0,q1,q2,q3⟩;exact hn l r' g q0 q1 q2 q3.symm
 ·intro k r' hk he;have ab:∀g,nC blk O x k=some g->w.heap.size<=g.1∨∃y s g0,rt y=x∧EH h y=some s∧blk y=some g0∧g.1=g0.1:=by
   intro g X;obtain⟨r1,q1,q2⟩:=aa k r' hk he;rcases az g.1 ⟨_,r1,g,q1,by rw[<- q2];exact X,rfl⟩ with q|⟨y,s',g',p0,p1,p2,p3⟩
   ·exact .inl q
   ·exact .inr ⟨y,s',g',p0,p1,p2,p3.symm⟩
  have aC:∀ {g:Nat×Nat} {r1:Row},r1.mp=false->dU w' (fun b=>M' b∨uN O (EH (mC (iV r.ty ty s 0 cs'))) b) g r1->dU w' (Own M (EH h2) (nC blk O x)) g r1:=by
   intro g r1 aG hr;unfold dU at hr ⊢;rw[aG]at hr ⊢;obtain⟨arr,k1,k2,k3⟩:=hr;exact⟨arr,k1,k2,fun j d hj=>⟨(k3 j d hj).1,(k3 j d hj).2.less ae⟩⟩
  rcases eA Z rfl rfl Y hk he with⟨rfl,rfl⟩|⟨o,n,xs,rfl,ho,rfl⟩
  ·refine⟨rfl,fun hn=>by have:=(hI.rows k _ (fG hx hm hc Y)).1 hn;exact this,?_⟩;rw[ai,h0];refine⟨ab g0 (ai.trans h0),?_⟩;have U:=hR.rows 0 _ uh;rw[h0]at U;have U:dU w' (fun b=>M' b∨uN O (EH (mC (iV r.ty ty s 0 cs'))) b) g0 ⟨0,r.ty,cs'.mapIdx (pO 0 s),false,true,true⟩:=U;unfold dU at U ⊢;simp only at U ⊢;rcases U with⟨ks,vs,k1,_⟩|⟨_,arr,k2,k3,k4⟩
   ·exfalso;simp only at k1;have hl:cs'.length=1:=by
     have:=congrArg List.length k1;simpa using this
    match cs',hl with
    | [d],_ =>
     simp only[List.mapIdx_cons,List.mapIdx_nil,ag0,and_true]at k1;have:=ky 0 s 0 d;rw[k1]at this;cases this
   ·refine .inr ⟨fun d hd =>?_,arr,k2,by simpa using k3,fun j d hj =>?_⟩
    ·obtain⟨j,hj⟩:=agY hd;simp only[ajn,agA]at hj;obtain⟨d0,ag,rfl⟩:=hj;exact ky _ _ _ _
    ·simp only[ajn,agA]at hj;obtain⟨d0,ag,rfl⟩:=hj
     by_cases ah:fa d0=true
     ·rw[jD ah];have aH:(cs'.mapIdx (pO 0 s))[j]? = some d0:=by rw[ajn,ag];exact congrArg some (jD ah)
      exact (fb ah).2.2.2 (((fb ah).2.2.1 (k4 j _ aH)).less ae)
     ·cases d0<;>first|trivial|exact absurd rfl ah
  ·refine⟨rfl,fun hn=>by have:=eS x o;have:=hI.big;have:=cv;omega,?_⟩;have U:=hR.rows _ _ (ss ho);rw[ao];cases X:O (NK 0 o) with
   | none=>rw[X]at U;exact U
   | some g =>
    rw[X]at U;refine⟨ab g ((ao o).trans X),aC rfl ?_⟩;obtain⟨arr,k1,k2,k3⟩:=U;exact⟨arr,k1,k2,k3⟩
 ·intro k l r1 r2 g g' hk hl he ar X aI aJ;obtain⟨q1,p1,p2⟩:=aa k r1 hk he;obtain⟨q2,p3,p4⟩:=aa l r2 hl ar;have e1:=hR.inj _ _ _ _ g g' p1 p3 (by rw[<- p2];exact X) (by rw[<- p4];exact aI) aJ;rcases eA Z rfl rfl Y hk he with⟨rfl,_⟩|⟨o,n,xs,rfl,ho,_⟩
  ·rcases eA Z rfl rfl Y hl ar with⟨rfl,_⟩|⟨o',n',aK,rfl,aL,_⟩
   ·rfl
   ·rw[s8,kp Y]at e1;have:=eS 0 o';have:=cv;omega
  ·rcases eA Z rfl rfl Y hl ar with⟨rfl,_⟩|⟨o',n',aK,rfl,aL,_⟩
   ·rw[s8,kp Y]at e1;have:=eS 0 o;have:=cv;omega
   ·rw[kp Y,kp Y]at e1;rw[(rG mf mf e1).2]
 ·intro k r' hk hv he;rcases eA Z rfl rfl Y hk he with⟨rfl,rfl⟩|⟨o,n,xs,rfl,ho,rfl⟩
  ·refine⟨⟨_,fG hx hm hc Y,rfl⟩,by rw[ai,h0,ax],fun g X =>?_⟩;rw[ax]at X;cases X;exact aE
  ·exact absurd hv (hV o)
 ·intro k r' g hk he au X j x' s' n hj;rcases eA Z rfl rfl Y hk he with⟨rfl,rfl⟩|⟨o,n',xs,rfl,ho,rfl⟩;rotate_left
  ·cases au
  simp only[ajn,agA]at hj;obtain⟨d0,ag,aM⟩:=hj;obtain⟨aN,rfl,rfl,rfl⟩:=pH aM;rw[ai]at X;obtain⟨_,u,k1,k2⟩:=hR.pha 0 _ g uh rfl X j (NK 0 j) s' n (by simp only[ajn,ag,Option.map_some,pO]);refine⟨⟨Y,.inr rfl⟩,u,k1,fun _ _ =>?_⟩;have:=k2 _ (ss ag);rw[ao];exact this
 ·intro y r' j x' s' n hy he au hj aw;have hrow:=(hI.rows y r' he).2;cases X:blk y with
  | none =>
   rw[X]at hrow;have hrow:r'.cells=[]:=hrow;rw[hrow]at hj;cases hj
  | some g =>
   obtain⟨q1,q2⟩:=(hI.pha y r' g he au X j x' s' n hj).1;rcases q2 with rfl|rfl
   ·have:rt (PK+y)=PK+y:=gQ (by omega);rw[this]at aw;omega
   ·rw[sO q1]at aw;rw[yt q1]at hy;exact hy aw
end
end Go.Proofs.YtoioidmblipblaaGreat.Am
