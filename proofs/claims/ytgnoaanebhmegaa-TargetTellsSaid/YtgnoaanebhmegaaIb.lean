import Derived.Test.YtgnoaanebhmegaaIa
set_option linter.unusedSimpArgs false
set_option linter.unusedVariables false
noncomputable section
open Go.Proofs.Try
namespace Go.Proofs.Ytgnoaanebhmegaa.Am
open Go.RowKit
section
variable {P:Program} {T:Nat->Option Ty} {N:Nat} {M:Nat->Prop} {L:fV} {w0:World} {blk:Nat->Option (Nat×Nat)} {V:Nat->Nat->Prop} {t:Nat->D} {h:Nat->Option Row} {a:Act} {w:World} {e:Nat} {o:Oper} {Γ:Env}
theorem QR (hT:fb P T) {Y:Nat} {φ:Ty} (hφ:T Y=some φ) (hs:gZ φ.ds=true) {x y:D} {u v:Value} {b:Bool} {M':Nat->Prop} (Z:RP w M' x u) (hy:RP w M' y v) (O:HU x y=some b) (n:Nat) :
  (∃d,P.underlying Y=some d)∧((∃k,φ.ds=.int k∧∃k' i j,x=.int k' i∧y=.int k' j)∨(φ.ds=.bool∧∃i j,x=.bool i∧y=.bool j)∨(φ.ds=.str∧∃i j,x=.str i∧y=.str j)->(Op.equalIn (n+1) Y u v).run P w=.ok b w):=by
 obtain⟨d,X,U⟩:=under hT hφ;refine⟨⟨d,X⟩,?_⟩;rintro (⟨k,hk,k',i,j,rfl,rfl⟩|⟨hk,i,j,rfl,rfl⟩|⟨hk,i,j,rfl,rfl⟩)
 ·rw[hk]at U;have:=rY U;subst this;cases Z;cases hy;simp only[HU,if_true,VP]at O;subst O;simp[Op.equalIn,run_underlying X]
 ·rw[hk]at U;have:=pY U;subst this;cases Z;cases hy;simp only[HU,VP]at O;subst O;simp[Op.equalIn,run_underlying X]
 ·rw[hk]at U;have:=mE U;subst this;cases Z;cases hy;simp only[HU,VP]at O;subst O;simp[Op.equalIn,run_underlying X]
theorem L9 {x y:D} {b:Bool} {s:Ds} (O:HU x y=some b) (hk:kindOk s x=true) :
  (∃k,s=.int k∧∃k' i j,x=.int k' i∧y=.int k' j)∨(s=.bool∧∃i j,x=.bool i∧y=.bool j)∨(s=.str∧∃i j,x=.str i∧y=.str j):=by
 cases x<;>cases y<;>simp only[HU]at O<;>try (cases O;done)
 ·rename_i k i k' j;split at O
  ·rename_i he;subst he;cases s<;>simp[kindOk]at hk;exact .inl ⟨_,rfl,_,_,_,rfl,rfl⟩
  ·cases O
 ·cases s<;>simp[kindOk]at hk;exact .inr (.inl ⟨rfl,_,_,rfl,rfl⟩)
 ·cases s<;>simp[kindOk]at hk;exact .inr (.inr ⟨rfl,_,_,rfl,rfl⟩)
theorem CL (X:Inv N M L w0 blk V t h a w) {x:Operand} {i:Nat} {xs:List D} {d:D} (ho:o.op=.extract x i) (hx:ev t x=.tup xs) (Y:xs[i]? = some d):db P o a w (aJ N M L w0 V t h a e o.dst ⟨d,[]⟩):=by
 have Z:=X.ev x;rw[hx]at Z;have U:RP w (Own M h blk) (.tup xs) (a.eval x):=Z;generalize hu:a.eval x=u at *;cases U with
 | tup xs us h1 h2 =>
  have aa:=(V9.1 Y).1;refine av (v:=us.getD i undef) (w':=w) ?_ (aJ.ct X (aS (h2 i d Y)));have O:us[i]? = some (us.getD i undef):=by simp[List.getD,VT (show i<us.length by omega)]
  generalize us.getD i undef=v at *;simp[execOp,ho,Instr.extract,hu,O]
theorem CJ (X:fb P T) (Y:Inv N M L w0 blk V t h a w) {x:Operand} {src ty:Nat} {τ σ:Ty} {k k':IntKind} {n:Int} (ho:o.op=.convert src ty x) (hτ:T ty=some τ) (hσ:T src=some σ) (U:τ.ds=.int k') (hx:ev t x=.int k n) :
  db P o a w (aJ N M L w0 V t h a e o.dst ⟨.int k' (k'.wrap n),[]⟩):=by
 have Z:=Y.ev x;rw[hx]at Z;have hu:=iW Z;obtain⟨d,hd,hc⟩:=under X hτ;obtain⟨d2,O,_⟩:=under X hσ;rw[U]at hc;have:=rY hc;subst this;refine av (v := .int k' (k'.wrap n)) (w':=w) ?_ (aJ.ct Y (aS (.int _ _)));have:=run_convert_int (P:=P) (w:=w) src ty k n (by simp[O]);simp[execOp,ho,hu,convert,run_underlying hd,run_underlying O,Conv.intToInt]
theorem L2 (U:Inv N M L w0 blk V t h a w) {x:Operand} {op:UnOp} {ty:Nat} {d:D} (X:o.op=.unOp op ty x) (O:zC op (ev t x)=some d):db P o a w (aJ N M L w0 V t h a e o.dst ⟨d,[]⟩):=by
 have Y:=U.ev x;generalize ev t x=q at *;cases q with
 | int k n =>
  have hu:=iW Y;cases op<;>simp only[zC,VP]at O<;>try (cases O;done)
  all_goals
   subst O;refine av (w':=w) ?_ (aJ.ct U (aS (.int _ _)));simp[execOp,X,hu,Op.unary,Op.intArith,Op.intBits,wo]
 | bool b =>
  have hu:=pR Y;cases op<;>simp only[zC,VP]at O<;>try (cases O;done)
  all_goals
   subst O;refine av (w':=w) ?_ (aJ.ct U (aS (.bool _)));simp[execOp,X,hu,Op.unary]
 | _=>simp[zC]at O
theorem p9:∀ {xs:List D},ll xs=true->∀x∈xs,ep x=true
 | [],_,x,O=>by simp at O
 | y::U,h,x,O=>by
  simp only[ll,Wh]at h;rcases VN.1 O with rfl|O
  ·exact h.1
  ·exact p9 h.2 x O
theorem RP.flat {X M2:Nat->Prop} {d:D} {u:Value} (Y:RP w X d u) (O:ep d=true):RP w M2 d u:=by
 induction Y with
 | int k n=>exact .int k n
 | bool b=>exact .bool b
 | str s=>exact .str s
 | sl A c nl tight n xs us h1 h2 h3 h4 h5 h6 h7 h8 ih=>simp[ep]at O
 | agg xs us h1 h2 h3 ih =>
  simp only[ep]at O;exact .agg xs us h1 (fun j x U=>ih j x U (p9 O x (V8 U))) h3
 | tup xs us h1 h2 ih =>
  simp only[ep]at O;exact .tup xs us h1 (fun j x U=>ih j x U (p9 O x (V8 U)))
 | ip xs ad us h6 h7 h8 ih=>simp[ep]at O
 | fn f=>exact .fn f
 | ali x v s o n u h1=>simp[ep]at O
 | mpc ks vs mb us h1 h2 h3 h4 ih=>simp[ep]at O
 | alm x v u h1=>simp[ep]at O
 | clo f Z xs us h1 h2 ih=>simp[ep]at O
theorem rE {h:Nat->Option Row} {blk:Nat->Option (Nat×Nat)} {old:Option Nat} {b:Nat} (X:Own M (forget h old) blk b):Own M h blk b:=by
 rcases X with X|⟨x,r,g,U,Y,Z,he⟩
 ·exact .inl X
 ·refine .inr ⟨x,r,g,?_,Y,Z,he⟩;cases old with
  | none=>exact U
  | some y =>
   simp only[forget]at U
   by_cases O:x=y
   ·subst O;simp[bj]at U
   ·rwa [al _ _ O]at U
theorem Inv.fresh (X:Inv N M L w0 blk V t h a w) {w':World} {v:Value} {d ty s n:Nat} {cells:List D} {old dst:Option Nat} (O:dst=some d) (hV:fY N V d e)
  (hb:cC (fun b=>∃y g,old=some y∧blk y=some g∧b=g.1) w w') (hold:∀y,old=some y->∃r,h y=some r∧r.fz=false)
  (Z:(∃(g:Nat×Nat) (c:Nat) (cs:Array Value),v=.slice (some ⟨g.1,g.2,none⟩) n c∧(w.heap.size<=g.1∨∃y g0,old=some y∧blk y=some g0∧g.1=g0.1)∧w'.heap[g.1]? = some (.cells cs ty (0,0))∧n<=c∧c<=maxLen∧c*s+g.2=cs.size∧g.2+cells.length<=cs.size ∧
   ∀(j:Nat) d,cells[j]? = some d->aF d=true∧RP w' (fun b=>Own M (forget h old) blk b∨b=g.1) d (cs.getD (g.2+j) undef))∨(n=0∧cells=[]∧∃A,v=.slice A 0 0)) :
  ∃blk',Inv N M L w0 blk' (fun x k=>V x k∨(dst=some x∧k=e)) t (bj (forget h old) d (some ⟨e,ty,cells,false,true,false⟩)) a w' ∧
   RT w' (Own M (bj (forget h old) d (some ⟨e,ty,cells,false,true,false⟩)) blk') (bj (forget h old) d (some ⟨e,ty,cells,false,true,false⟩)) blk' (fun x k=>V x k∨(dst=some x∧k=e)) (.buf d e s 0 n) v:=by
 have Y:∀ {blk':Nat->Option (Nat×Nat)},Inv N M L w0 blk' (fun x k=>V x k∨(x=d∧k=e)) t (bj (forget h old) d (some ⟨e,ty,cells,false,true,false⟩)) a w'->Inv N M L w0 blk' (fun x k=>V x k∨(dst=some x∧k=e)) t (bj (forget h old) d (some ⟨e,ty,cells,false,true,false⟩)) a w':=fun hJ=>hJ.weaken fun x k U=>by
  rcases U with U|⟨rfl,rfl⟩
  ·exact .inl U
  ·exact .inr ⟨O,rfl⟩
 rcases Z with⟨g,c,cs,rfl,g1,g2,g3,g4,g5,g6,g7⟩|⟨rfl,rfl,A,rfl⟩
 ·refine⟨bj blk d (some g),Y (X.H3 (old:=old) hb.os hb.tape hb.output hb.size (fun k hk hn=>hb.block k hk (fun⟨y,g0,h1,h2,h3⟩=>hn y g0 h1 h2 h3)) hold rfl hV ⟨g1,cs,g2,g6,g7⟩),?_⟩;exact mX (.inr ⟨O,rfl⟩) (aj _ _ _) g2 g3 g4 g5
 ·refine⟨bj blk d none,Y (X.H3 (go:=none) (old:=old) hb.os hb.tape hb.output hb.size (fun k hk hn=>hb.block k hk (fun⟨y,g0,h1,h2,h3⟩=>hn y g0 h1 h2 h3)) hold rfl hV rfl),?_⟩;exact⟨.inr ⟨O,rfl⟩,fun _ _ _ =>.inr ⟨aj _ _ _,rfl,A,rfl⟩⟩
theorem RP.less {M1 M2:Nat->Prop} {d:D} {u:Value} (O:RP w M1 d u) (hm:∀b,M2 b->M1 b):RP w M2 d u:=O.keep fun _ h1 h2=>⟨h1,fun U=>h2 (hm _ U),rfl⟩
theorem Inv.we (Y:Inv N M L w0 blk V t h a w) {ds VA:List D} {fr:List Nat} {vs:Array Value} {M':Nat->Prop} (O:Am.aO h ds=some (VA,fr)) (Z:ki M h blk fr M') (U:vs.size=ds.length)
  (hr:∀(j:Nat) d,ds[j]? = some d->RT w (Own M h blk) h blk V d (vs.getD j undef)):rN w M' VA vs:=by
 obtain⟨i1,i2⟩:=Y.aO (us:=vs.toList) O Z (by simpa using U) (fun j d X=>by have:=hr j d X;simpa [List.getD] using this);refine⟨by simpa using i1,fun j d X =>?_,fun b hb=>(Y.tab b hb).less Z.le⟩;have:=i2 j d X;simpa [List.getD] using this
theorem D2 (hΓ:bt P Γ) (hI:Inv N M L w0 blk V t h a w) {g:Nat} {dst:Option Nat} {E:aR} {ds:List D} {vs:Array Value} (Y:oC Γ h e dst g ds=some E) (hV:∀d,dst=some d->fY N V d e) (aa:vs.size=ds.length)
  (hr:∀(j:Nat) d,ds[j]? = some d->RT w (Own M h blk) h blk V d (vs.getD j undef)):cu P g∧Calls P g vs w fun e' w'=>∃v,e'=.returned v∧aJ N M L w0 V t h a e dst E v w':=by
 unfold oC at Y;split at Y
 ·rename_i VA fr ab;split at Y
  ·rename_i r out hs;simp only[VP]at Y;subst Y;obtain⟨U,ad⟩:=hΓ.calls g none VA _ _ hs;refine⟨ad,?_⟩
   by_cases O:ep r=true
   ·refine (U w _ vs (fun b X=>hI.rF X.1) (hI.we ab (hI.Bh fr) aa hr)).mono fun e' w' hg =>?_;obtain⟨v,he,X,Z⟩:=hg;refine⟨v,he,?_⟩;rw[if_pos O];exact aJ.ct (hI.OI X) (aS (RP.flat Z O))
   ·have hIf:=hI.freeze fr;refine (U w _ vs (fun b X=>hIf.rF X) (hI.we ab (hI.dB fr) aa hr)).mono fun e' w' hg =>?_;obtain⟨v,he,X,Z⟩:=hg;refine⟨v,he,?_⟩;rw[if_neg O];exact⟨blk,(hIf.OI X).weaken fun _ _ h =>.inl h,aS Z⟩
  ·rename_i ty s n cells out hs;split at Y
   ·rename_i d;split at Y
    ·rename_i ae;simp only[VP]at Y;subst Y;obtain⟨U,ad⟩:=hΓ.calls g none VA _ _ hs;refine⟨ad,?_⟩
     by_cases O:ll cells=true
     ·refine (U w _ vs (fun b X=>hI.rF X.1) (hI.we ab (hI.Bh fr) aa hr)).mono fun e' w' hg =>?_;obtain⟨v,he,X,Z⟩:=hg;refine⟨v,he,?_⟩;rw[if_pos O];exact hI.fresh (old:=none) rfl (hV d rfl) (cC.sI X) (fun y hy=>by cases hy) (by
       rcases Z with⟨g,c,cs,h1,h2,h3,h4,h5,h6,h7,h8⟩|Z
       ·exact .inl ⟨g,c,cs,h1,.inl (h2.resolve_right id),h3,h4,h5,h6,h7,fun j x hj=>⟨(h8 j x hj).1,(h8 j x hj).2.flat (p9 O x (V8 hj))⟩⟩
       ·exact .inr Z)
     ·have hIf:=hI.freeze fr;refine (U w _ vs (fun b X=>hIf.rF X) (hI.we ab (hI.dB fr) aa hr)).mono fun e' w' hg =>?_;obtain⟨v,he,X,Z⟩:=hg;refine⟨v,he,?_⟩;rw[if_neg O];have:=hIf.fresh (e:=e) (ty:=ty) (s:=s) (cells:=cells) (n:=n) (v:=v) (old:=none) (dst:=some d) rfl (hV d rfl) (cC.sI X) (fun y hy=>by cases hy) (by
       rcases Z with⟨g,c,cs,h1,h2,h3,h4,h5,h6,h7,h8⟩|Z
       ·exact .inl ⟨g,c,cs,h1,.inl (h2.resolve_right id),h3,h4,h5,h6,h7,h8⟩
       ·exact .inr Z)
      unfold aJ;rw[ef];exact this
    ·cases Y
   ·cases Y
  ·cases Y
 ·cases Y
theorem Inv.Rz (Y:Inv N M L w0 blk V t h a w) {x v:Nat} {r:Row} (X:live h x v=some r) {u:Value} : (∀s o n,RT w (Own M h blk) h blk V (.buf x v s o n) u->tX w (blk x) (.buf 0 0 s o n) u)∧(∀o,RT w (Own M h blk) h blk V (.ptr x v o) u->tX w (blk x) (.ptr 0 0 o) u):=by
 obtain⟨O,U⟩:=bg X;exact⟨fun s o n hr=>⟨trivial,fun r' _ _=>hr.2 r O U⟩,fun o hr=>⟨trivial,fun r' _ _=>hr.2 r O U⟩⟩
theorem Inv.Ry (Y:Inv N M L w0 blk V t h a w) {x v:Nat} {r:Row} (O:rv h x v=some r) {u:Value} (hr:RT w (Own M h blk) h blk V (.mp x v) u):tX w (blk x) (.mp 0 0) u:=by
 obtain⟨U,X,_⟩:=uQ O;exact⟨trivial,fun r' _ _=>hr.2 r U X⟩
theorem II {d0:D} {x v:Nat} {r:Row} (O:sC d0 h x v=some r):(h x=some r∧r.v=v)∧mL r=true:=by
 unfold sC at O;split at O
 ·obtain⟨h1,h2,_,h3⟩:=uQ O;exact⟨⟨h1,h2⟩,h3⟩
 ·exact⟨bg O,nB (eG O)⟩
theorem wF (hΓ : bt P Γ) (hI : Inv N M L w0 blk V t h a w) {g x v : Nat} {d0 : D} {dst : Option Nat} {E : aR} {ds : List D} {u0 : Value} {vs : Array Value} (U : kR Γ h e dst g x v d0 ds = some E) (hV : ∀ d, dst = some d -> fY N V d e) (ar : V x v)
    (h0 : ∀ r, sC d0 h x v = some r -> tX w (blk x) d0 u0) (au : vs.size = ds.length) (hr : ∀ (j : Nat) d, ds[j]? = some d -> RT w (Own M h blk) h blk V d (vs.getD j undef)) :
    cu P g ∧ Calls P g (#[u0] ++ vs) w fun e' w' => ∃ v, e' = .returned v ∧ aJ N M L w0 V t h a e dst E v w' := by
  unfold kR at U;split at U
  · rename_i r hl
    obtain ⟨⟨hx, hv⟩, av⟩ := II hl;split at U
    · rename_i hz
      split at U
      · rename_i VA fr aw
        split at U
        · rename_i ax
          have hIf := hI.freeze fr;have ab : ay h (fB h fr) x = some r := by rw [tq ax]; exact hx
          have az : ∀ b, ou (blk x) b -> Own M (ay h (fB h fr)) blk b := fun b ⟨g0, X, he⟩ => .inr ⟨x, r, g0, ab, hz, X, he.symm⟩;have hle : ∀ b, ((Own M (ay h (fB h fr)) blk b ∧ ¬ ou (blk x) b) ∨ ou (blk x) b) -> Own M (ay h (fB h fr)) blk b := fun b hb => hb.elim (·.1) (az b);have Z := hI.we aw (hI.dB fr) au hr;have ae : rN w (fun b => (Own M (ay h (fB h fr)) blk b ∧ ¬ ou (blk x) b) ∨ ou (blk x) b) VA vs := ⟨Z.1, fun j d hj => (Z.2 j d hj).less hle, fun b hb => (Z.tab b hb).less hle⟩;have hrow : Jv w (fun b => (Own M (ay h (fB h fr)) blk b ∧ ¬ ou (blk x) b) ∨ ou (blk x) b) (blk x) { r with v := 0 } := by
            have := (hIf.rows x r ab).2;cases hg : blk x with
            | none => rw [hg] at this; exact this
            | some g0 =>
              rw [hg] at this hle;exact cr.keep (r' := { r with v := 0 }) this.2 rfl rfl rfl rfl (fun b h1 h2 => ⟨h1, fun hb => h2 (hle b hb), rfl⟩)
          have aj : ∀ (r2 : Option Row) b, Own M (bj (ay h (fB h fr)) x r2) blk b -> (Own M (ay h (fB h fr)) blk b ∧ ¬ ou (blk x) b) ∨ ou (blk x) b := by
            intro r2 b hb
            by_cases hi : ou (blk x) b
            · exact .inr hi
            · refine .inl ⟨?_, hi⟩
              rcases hb with hb | ⟨y, s, g0, hy, aA, X, he⟩
              · exact .inl hb
              · by_cases ak : y = x
                · subst ak; exact absurd ⟨g0, X, he.symm⟩ hi
                · rw [al _ _ ak] at hy
                  exact .inr ⟨y, s, g0, hy, aA, X, he⟩
          have key : ∀ {rk : RK} {out : Option Row}, Γ.sem g (some (d0, { r with v := 0 })) VA = some (rk, out) -> cu P g ∧ Calls P g (#[u0] ++ vs) w fun e' w' => ∃ u, e' = .returned u ∧ cC (ou (blk x)) w w' ∧
              (∀ r1, out = some r1 -> Inv N M L w0 blk V t (bj (ay h (fB h fr)) x (some { r1 with v := v })) a w' ∧ r1.ty = r.ty) ∧
              (match rk with
               | .same s o n => tX w' (blk x) (.buf 0 0 s o n) u
               | .clean d => RP w' (fun b => (Own M (ay h (fB h fr)) blk b ∧ ¬ ou (blk x) b) ∨ ou (blk x) b) d u
               | .fresh ty s n cells => qV w w' (fun b => Own M (ay h (fB h fr)) blk b ∧ ¬ ou (blk x) b) (ou (blk x)) u (.fresh ty s n cells)) := by
            intro rk out hs;obtain ⟨O, aa⟩ := hΓ.calls g _ VA _ _ hs;refine ⟨aa, ?_⟩;refine (O w (fun b => Own M (ay h (fB h fr)) blk b ∧ ¬ ou (blk x) b) (blk x) u0 vs (fun b hb => hIf.rF hb.1) (fun b hb hb' => hb'.2 hb) hz (by simpa [mL] using av) hrow (h0 r hl) ae).mono fun e' w' hg => ?_;obtain ⟨u, he, hb, ho, hk⟩ := hg;refine ⟨u, he, hb, fun r1 aB => ?_, hk⟩;subst aB;obtain ⟨o1, o2, ⟨aE, aC⟩, o3, o4⟩ := ho;refine ⟨?_, o1⟩;have := hIf.gY (r0 := { r1 with v := v }) (w' := w') ab hz hv.symm hb.os hb.tape hb.output hb.size (fun b aD hb2 => hb.block b aD (fun ⟨g0, X, he⟩ => hb2 g0 X he)) (by
              cases hg : blk x with
              | none => rw [hg] at o4; exact o4
              | some g0 =>
                rw [hg] at o3 o4;refine ⟨o3 g0 rfl, cr.keep (r' := { r1 with v := v }) o4 rfl rfl rfl rfl (fun b h1 h2 => ⟨h1, fun hb => h2 ?_, rfl⟩)⟩
                by_cases hi : ou (some g0) b
                · exact .inr hi
                · exact .inl ⟨hb, hi⟩) (fun h => by rw [show ({ r1 with v := v } : Row).fz = r1.fz from rfl, o2] at h; cases h) (fun hm g0 _ j x' s n hj => by
                  obtain ⟨ks, aF, hc⟩ := sD aC hm;rw [show ({ r1 with v := v } : Row).cells = r1.cells from rfl, hc] at hj;cases j <;> simp at hj)
            exact this
          split at U
          · rename_i c r1 hs
            simp only [VP] at U;subst U;obtain ⟨aa, O⟩ := key hs;refine ⟨aa, O.mono fun e' w' hg => ?_⟩;obtain ⟨u, he, hb, ho, hk⟩ := hg;refine ⟨u, he, blk, ?_, ?_⟩
            · rw [ef]; exact (ho r1 rfl).1.weaken fun _ _ h => .inl h
            · rw [ef]; exact aS (RP.less hk (aj _))
          · rename_i s o' n r1 hs
            simp only [VP] at U;subst U;obtain ⟨aa, O⟩ := key hs;refine ⟨aa, O.mono fun e' w' hg => ?_⟩;obtain ⟨u, he, hb, ho, hk⟩ := hg;refine ⟨u, he, blk, ?_, ?_⟩
            · rw [ef]; exact (ho r1 rfl).1.weaken fun _ _ h => .inl h
            · rw [ef]
              exact ⟨.inl ar, fun r' _ _ => hk.2 ⟨0, 0, [], false, false, false⟩ rfl rfl⟩
          · rename_i ty s n cells hs
            split at U
            · rename_i d
              split at U
              · rename_i hd
                simp only [VP] at U;subst U;obtain ⟨aa, O⟩ := key hs;refine ⟨aa, O.mono fun e' w' hg => ?_⟩;obtain ⟨u, he, hb, _, hk⟩ := hg;refine ⟨u, he, ?_⟩;have := hIf.fresh (e := e) (ty := ty) (s := s) (cells := cells) (n := n) (v := u) (old := some x) (dst := some d) rfl (hV d rfl) (w' := w') ⟨hb.os, hb.tape, hb.output, hb.size, fun k hk hn => hb.block k hk (fun ⟨g0, X, he⟩ => hn ⟨x, g0, rfl, X, he⟩)⟩ (fun y hy => by cases hy; exact ⟨r, ab, hz⟩) (by
                  rcases hk with ⟨g, c, cs, h1, h2, h3, h4, h5, h6, h7, h8⟩ | hv
                  · refine .inl ⟨g, c, cs, h1, h2.imp id (fun ⟨g0, X, he⟩ => ⟨x, g0, rfl, X, he⟩), h3, h4, h5, h6, h7, fun j y hj => ⟨(h8 j y hj).1, ?_⟩⟩
                    refine (h8 j y hj).2.less fun b hb => ?_;rcases hb with hb | hb
                    · refine .inl ⟨?_, ?_⟩
                      · rcases hb with hb | ⟨z, s', g0, Y, an, ah, ai⟩
                        · exact .inl hb
                        · simp only [forget] at Y
                          by_cases ad : z = x
                          · subst ad; simp [bj] at Y
                          · rw [al _ _ ad] at Y
                            exact .inr ⟨z, s', g0, Y, an, ah, ai⟩
                      · rintro ⟨g1, ao, aq⟩
                        rcases hb with hb | ⟨z, s', g0, Y, an, ah, ai⟩
                        · rw [aq] at hb
                          exact hIf.notM ab ao hb
                        · simp only [forget] at Y
                          by_cases ad : z = x
                          · subst ad; simp [bj] at Y
                          · rw [al _ _ ad] at Y
                            exact ad (hIf.inj z x s' r g0 g1 Y ab ah ao (ai.trans aq))
                    · exact .inr hb
                  · exact .inr hv)
                unfold aJ;have e1 : fB h fr ++ [(x, none), (d, some ⟨e, ty, cells, false, true, false⟩)] = (fB h fr ++ [(x, none)]) ++ [(d, some ⟨e, ty, cells, false, true, false⟩)] := by simp
                rw [e1, ef, ef];exact this
              · cases U
            · cases U
          · cases U
        · cases U
      · cases U
    · cases U
  · cases U
inductive jy (Q:D->Value->Prop):List D->List Value->Prop
 | nil:jy Q [] []
 | cons {d:D} {u:Value} {ds:List D} {us:List Value} (h:Q d u) (hs:jy Q ds us):jy Q (d::ds) (u::us)
theorem jy.length {Q:D->Value->Prop} {ds:List D} {us:List Value} (h:jy Q ds us):us.length=ds.length:=by
 induction h with
 | nil=>rfl
 | cons h hs O=>simp[O]
theorem jy.of {Q:D->Value->Prop} : ∀ {ds:List D} {us:List Value},us.length=ds.length->(∀(j:Nat) d,ds[j]? = some d->Q d (us.getD j undef))->jy Q ds us
 | [],[],_,_ =>.nil
 | [],_::_,h,_=>by simp at h
 | _::_,[],h,_=>by simp at h
 | d::ds,u::us,h,O =>.cons (by simpa using O 0 d rfl) (jy.of (by simpa using h) fun j x U=>by simpa using O (j+1) x (by simpa using U))
theorem jy.at_ {Q:D->Value->Prop} {ds:List D} {us:List Value} (h:jy Q ds us):∀(j:Nat) d,ds[j]? = some d->∃u,us[j]? = some u∧Q d u:=by
 induction h with
 | nil=>intro j d O;simp at O
 | cons h hs U =>
  intro j d O;cases j with
  | zero=>simp only[List.getElem?_cons_zero,VP]at O;subst O;exact⟨_,rfl,h⟩
  | succ j=>simp only[List.getElem?_cons_succ]at O ⊢;exact U j d O
theorem jy.append {Q:D->Value->Prop} {ds O:List D} {us U:List Value} (h:jy Q ds us) (h':jy Q O U):jy Q (ds++O) (us++U):=by
 induction h with
 | nil=>exact h'
 | cons h hs X=>exact .cons h X
theorem jy.take {Q:D->Value->Prop} {ds:List D} {us:List Value} (h:jy Q ds us):∀n:Nat,jy Q (ds.take n) (us.take n):=by
 induction h with
 | nil=>intro n;simp;exact .nil
 | cons h hs O =>
  intro n;cases n with
  | zero=>exact .nil
  | succ n=>exact .cons h (O n)
theorem jy.drop {Q:D->Value->Prop} {ds:List D} {us:List Value} (h:jy Q ds us):∀n:Nat,jy Q (ds.drop n) (us.drop n):=by
 induction h with
 | nil=>intro n;simp;exact .nil
 | cons h hs O =>
  intro n;cases n with
  | zero=>exact .cons h hs
  | succ n=>exact O n
theorem jy.mono {Q Q':D->Value->Prop} {ds:List D} {us:List Value} (h:jy Q ds us) (O:∀d u,Q d u->Q' d u):jy Q' ds us:=by
 induction h with
 | nil=>exact .nil
 | cons h hs U=>exact .cons (O _ _ h) U
theorem Inv.TQ (hI:Inv N M L w0 blk V t h a w) {x v s n:Nat} {r:Row} {u:Value} (hl:live h x v=some r) (hr:RT w (Own M h blk) h blk V (.buf x v s 0 n) u) :
  ∃cs,M8 w r.ty s (blk x) u n cs∧jy (fun d u=>aF d=true∧RP w (Own M h blk) d u) r.cells cs:=by
 obtain⟨Y,hv⟩:=bg hl;rcases hr.2 r Y hv with⟨g,o',c,N',ty,U,rfl,k2,k3,k4,k5⟩|⟨U,rfl,A,rfl⟩
 ·obtain⟨arr,h1,h2,h3⟩:=hI.xQ Y U (eG hl);obtain⟨k6,k7⟩:=k2 (.inr rfl);have hN:N'=arr.size:=by
   simp only[World.shape?,h1,VP,Prod.mk.injEq]at k5;exact k5.2.symm
  rw[Wf]at k6;subst k6;refine⟨(List.range r.cells.length).map fun j=>arr.getD (g.2+j) undef,.inl ⟨g,c,arr,U,rfl,h1,by omega,k3,k4,fun j y X =>?_⟩,jy.of (by simp) fun j d X =>?_⟩
  ·rw[VC,VD]at X;obtain⟨i,Z,rfl⟩:=X;have O:=(V9.1 Z).1;rw[List.getElem?_range (by simpa using O)]at Z;cases Z;simp only[Wb]at O;rw[VL,WQ (show g.2+j<arr.size by omega)];rfl
  ·have O:=(V9.1 X).1;have:=h3 j d X;simpa [List.getD,O] using this
 ·have:=(hI.rows x r Y).2;rw[U]at this;have hc:r.cells=[]:=this;exact⟨[],.inr ⟨U,rfl,rfl,A,rfl⟩,by rw[hc];exact .nil⟩
theorem NH {g:Nat} {p:Nat×Nat×Nat} (O:R4 P g p) (hI:Inv N M L w0 blk V t h a w) {dst:Option Nat} {E:aR} {ds:List D} {vs:Array Value} (Z:nX h e dst p ds=some E) (hV:∀d,dst=some d->fY N V d e) (ad:vs.size=ds.length)
  (hr:∀(j:Nat) d,ds[j]? = some d->RT w (Own M h blk) h blk V d (vs.getD j undef)):cu P g∧Calls P g vs w fun e' w'=>∃v,e'=.returned v∧aJ N M L w0 V t h a e dst E v w':=by
 refine⟨O.callable,?_⟩;unfold nX at Z;split at Z<;>try (cases Z;done)
 rename_i x v s o n i y v' s' o' m;split at Z<;>try (cases Z;done)
 rename_i r r' d hl ae;split at Z<;>try (cases Z;done)
 rename_i hc;obtain⟨hz,aK,aH,aq,hxy,rfl,rfl,ar,ah,rfl,rfl,hlen,U,aL,aM,au,ai⟩:=hc;simp only[VP]at Z;subst Z;obtain⟨hx,hv⟩:=bg hl;obtain⟨hy,aN⟩:=bg ae;have av:vs = #[vs.getD 0 undef,vs.getD 1 undef,vs.getD 2 undef]:=by
  simp only[List.length_cons,List.length_nil]at ad;apply Array.ext
  ·simp[ad]
  ·intro j h1 h2;have:j=0∨j=1∨j=2:=by omega
   rcases this with rfl|rfl|rfl<;>simp[WQ h1]
 have h0:=hr 0 _ rfl;have h1:=iW (hr 1 _ rfl);have h2:=hr 2 _ rfl;obtain⟨cs,a1,a2⟩:=hI.TQ hl h0;obtain⟨cs',b1,b2⟩:=hI.TQ ae h2;rw[ar]at a1;rw[ah]at b1;have aa:∀ {ds:List D} {us:List Value},jy (fun d u=>aF d=true∧RP w (Own M h blk) d u) ds us->∀u∈us,u.oneCell'=true:=by
  intro ds us hR
  induction hR with
  | nil=>intro u hu;simp at hu
  | cons h hs ih =>
   intro u hu;rcases VN.1 hu with rfl|hu
   ·exact h.2.nH h.1
   ·exact ih u hu
 rw[av,h1,show i=((i.toNat:Nat):Int) by omega];refine (O.calls w (blk x) (blk y) _ _ i.toNat n m cs cs' a1 b1 (fun g g' hg aw he=>hxy (hI.inj x y r r' g g' hx hy hg aw he)) (by rw[a2.length,hlen]) (by rw[b2.length,U]) (aa a2) (aa b2) (by omega) au ai).mono fun e' w' hg =>?_;obtain⟨u,he,hb,g,c,arr,rfl,g1,g2,g3,g4,g5,g6⟩:=hg;refine⟨_,he,?_⟩;have ax:=hI.drop y;have ay:bj h y none x=some r:=by rw[al _ _ hxy];exact hx
 have ab:jy (fun d u=>aF d=true∧RP w (Own M h blk) d u) (r.cells.take (i.toNat*p.2.1)++(r'.cells++r.cells.drop (i.toNat*p.2.1))) (cs.take (i.toNat*p.2.1)++(cs'++cs.drop (i.toNat*p.2.1))):=(a2.take _).append (b2.append (a2.drop _));have aj:∀b,Own M (forget (bj h y none) (some x)) blk b->Own M h blk b:=by
  intro b hb;rcases rE hb with hb|⟨z,q,g0,X,az,aA,aB⟩
  ·exact .inl hb
  ·by_cases ak:z=y
   ·subst ak;simp[bj]at X
   ·rw[al _ _ ak]at X;exact .inr ⟨z,q,g0,X,az,aA,aB⟩
 have an:∀b,ou (blk x) b->Own M h blk b:=fun b ⟨g0,Y,aC⟩ =>.inr ⟨x,r,g0,hx,hz,Y,aC.symm⟩;have ao:=ax.fresh (e:=e) (ty:=p.1) (s:=p.2.1) (cells:=r.cells.take (i.toNat*p.2.1)++(r'.cells++r.cells.drop (i.toNat*p.2.1))) (n:=n+m) (v := .slice (some ⟨g.1,g.2,none⟩) (n+m) c) (old:=some x) (dst:=some d) rfl (hV d rfl) (w':=w')
  ⟨hb.os,hb.tape,hb.output,hb.size,fun k hk hn=>hb.block k hk (fun⟨g0,Y,he⟩=>hn ⟨x,g0,rfl,Y,he⟩)⟩ (fun z X=>by cases X;exact⟨r,ay,hz⟩)
  (.inl ⟨g,c,arr,rfl,g1.imp id (fun⟨g0,Y,he⟩=>⟨x,g0,rfl,Y,he⟩),g2,g3,g4,g5,?_,fun j d' hj =>?_⟩)
 ·unfold aJ;exact ao
 ·have aI:=O.pos;have e1:(cs.take (i.toNat*p.2.1)++(cs'++cs.drop (i.toNat*p.2.1))).length=(r.cells.take (i.toNat*p.2.1)++(r'.cells++r.cells.drop (i.toNat*p.2.1))).length:=ab.length;have e2:(r.cells.take (i.toNat*p.2.1)++(r'.cells++r.cells.drop (i.toNat*p.2.1))).length=(n+m)*p.2.1:=by
   have:=Ws p.2.1 (show i.toNat<=n by omega);rw[WN,WN,VZ,V0,hlen,U,WS this,WT];omega
  rw[e2];have:=Ws p.2.1 g3;omega
 ·obtain⟨u,hu,aD,aE⟩:=ab.at_ j d' hj;have aG:=g6 j u hu;refine⟨aD,?_⟩;rw[VL,aG];refine aE.keep fun b q1 q2=>⟨VJ q1 hb.size,?_,hb.block b q1 (fun hn=>q2 (an b hn))⟩;rintro (hn|rfl)
  ·exact q2 (aj b hn)
  ·rcases g1 with g1|g1
   ·omega
   ·exact q2 (an _ g1)
theorem NF {g:Nat} {p:Grow} (ai:MZ P g p) (hI:Inv N M L w0 blk V t h a w) (hP:∀x v,V x v->x<N∨2*PK<=x) {dst:Option Nat} {E:aR} {ds:List D} {vs:Array Value} (Z:nW h p ds=some E) (az:vs.size=ds.length)
  (hr:∀(j:Nat) d,ds[j]? = some d->RT w (Own M h blk) h blk V d (vs.getD j undef)):cu P g∧Calls P g vs w fun e' w'=>∃v,e'=.returned v∧aJ N M L w0 V t h a e dst E v w':=by
 refine⟨ai.callable,?_⟩;unfold nW at Z;split at Z<;>try (cases Z;done)
 rename_i y v k rest;split at Z<;>try (cases Z;done)
 rename_i O k' s n r aN hk;split at Z<;>try (cases Z;done)
 rename_i ak;obtain⟨rfl,aA,aB,aC,aO,aP,bb,rfl,aQ,hlen,aD⟩:=ak;split at Z<;>try (cases Z;done)
 rename_i cs ah;simp only[VP]at Z;subst Z;obtain⟨hy,hv,aE,an⟩:=rz aN;obtain⟨f1,f2,f3,f4⟩:=ai.flat _ _ _ ah;have h0:=hr 0 _ rfl;obtain⟨gy,Y,aF⟩:=h0.2 O hy hv;have ao:=hI.rowIs hy Y;unfold cr at ao;rw[aE]at ao;rcases ao with⟨_,_,aG,_⟩|⟨_,ya,y1,y2,_⟩
 ·rw[an]at aG;cases aG
 replace y2:gy.2<ya.size:=by rw[an]at y2;simp at y2;omega
 obtain⟨_,u,U,hph⟩:=hI.pha y O gy hy aE Y 0 _ _ _ (by rw[an];rfl);rw[Wf]at U;have aS:y<N:=by have:=hP _ _ h0.1;omega
 have aT:ya[gy.2]? = some u:=by
  rw[aL y1 y2]at U;rw[VP,VL,WQ y2]at U;rw[WQ y2,<- U];rfl
 have ba:=hI.big;have bc:PK=1000000:=rfl;have hyk:y≠k':=by omega
 have aU:M8 w p.ty p.k (blk k') u n (r.cells.map DB):=by
  rcases hph r hk with⟨g',c,N',bd,g0,rfl,g2,g3,g4,g5⟩|⟨g0,rfl,A,rfl⟩
  ·obtain⟨arr,k1,k2,k3⟩:=hI.xQ hk g0 aO;rw[aQ]at k1;refine .inl ⟨g',c,arr,g0,rfl,k1,?_,g3,g4,fun j x X =>?_⟩
   ·simp only[World.shape?,k1,VP,Prod.mk.injEq]at g5;omega
   ·rw[VC,VD]at X;obtain⟨d,X,rfl⟩:=X;have aq:=(V9.1 X).1;have:=A0 (f1 d (V8 X)) (k3 j d X).2;rw[WQ (by omega),<- this,VL,WQ (by omega)];rfl
  ·have:=(hI.rows k' r hk).2;rw[g0]at this;have hc:r.cells=[]:=this;exact .inr ⟨g0,rfl,by rw[hc];rfl,A,rfl⟩
 have aH:∀g,blk k'=some g->g.1≠gy.1:=fun g hg he=>hyk (hI.inj y k' O r gy g hy hk Y hg he.symm);have aV:vs = #[.pointer (some ⟨gy.1,gy.2,none⟩)]++(rest.map Q1).toArray:=by
  apply Array.ext
  ·simp at az ⊢;omega
  ·intro j h1 h2;cases j with
   | zero =>
    simp only[VL,WQ h1,Option.getD_some,Nat.add_zero]at aF;simp[aF]
   | succ j =>
    have X:j<rest.length:=by simp at az;omega
    have hd:=hr (j+1) _ (by rw[WM];exact VT X);have ad:=f2 _ (VS X);have aW:RP w (Own M h blk) rest[j] (vs.getD (j+1) undef):=by
     revert hd ad;generalize rest[j]=d;intro hd ad;cases d<;>first|exact hd|cases ad
    have:=Ma ad aW;simp only[VL,WQ h1,Option.getD_some]at this;rw[this];simp[WU]
 rw[aV];refine (ai.calls w gy ya O.ty (blk k') u n r.cells rest cs y1 aT aU aH hlen ah aD).mono fun e' w' ar =>?_;obtain⟨he,hb,g,c,arr,q1,q2,q3,q4,q5,q6,q7⟩:=ar;refine⟨_,he,bj blk k' (some g),?_,RP.int _ _⟩;have aX:∀v,¬V k' v:=fun v hv=>by have:=hP _ _ hv;omega
 generalize aY:Value.slice (some ⟨g.1,g.2,none⟩) (n+1) c=nu at q2;have au:(w.setRow gy.1 (ya.setIfInBounds gy.2 nu)).heap[gy.1]? = some (.cells (ya.setIfInBounds gy.2 nu) O.ty (0,0)):=setRow_heap w gy.1 ya _ O.ty (0,0) y1;have ae:(w.setRow gy.1 (ya.setIfInBounds gy.2 nu)).heap.size=w.heap.size:=by simp[World.setRow]
 have hheap:∀b,b≠gy.1->(w.setRow gy.1 (ya.setIfInBounds gy.2 nu)).heap[b]? = w.heap[b]?:=by
  intro b hb;simp only[World.setRow,VQ];rw[if_neg (Ne.symm hb)]
 have aZ:=hI.gY (r0:=⟨O.v,O.ty,[],false,false,false⟩) (w':=w.setRow gy.1 (ya.setIfInBounds gy.2 nu)) hy aC rfl rfl rfl rfl (by rw[ae];exact VG _) (fun b _ hb=>hheap b (hb gy Y)) (by
  rw[Y];exact⟨by simp[World.shape?,au,y1],_,au,by simp;omega,fun j d X=>by simp at X⟩) (fun h=>by cases h)
 have a1:bj h y (some (⟨O.v,O.ty,[],false,false,false⟩:Row)) k'=some r:=by rw[al _ _ (Ne.symm hyk)];exact hk
 have hA:=aZ.Ni (w':=w') (h1:=forget (bj h y (some ⟨O.v,O.ty,[],false,false,false⟩)) (some k')) (old:=some k') (d:=k') (r0:=⟨r.v,p.ty,r.cells++cs,false,true,false⟩) (go:=some g) (y0:=y) hb.os hb.tape hb.output (by rw[ae];exact hb.size)
  (fun b aq hn=>by
   by_cases av:b=gy.1
   ·subst av;rw[q2,au]
   ·rw[hheap b av];refine hb.block b (by rw[ae]at aq;exact aq) ?_;rintro (hh|⟨g0,aw,hh⟩)
    ·exact av hh
    ·exact hn k' g0 rfl aw hh) (fun y' a6=>by cases a6;exact⟨r,a1,aP⟩) rfl aA aS aX
  (fun r' ax=>by
   simp only[forget]at ax;rw[al _ _ hyk,aj]at ax;cases ax;rfl) (by
  refine⟨q1.imp (fun hh=>by rw[ae];exact hh) (fun⟨g0,aw,hh⟩=>⟨k',g0,rfl,aw,hh⟩),arr,q3,?_,fun j d X =>?_⟩
  ·simp only[WN,f4,hlen];have:=Ws p.k q4;rw[WT]at this;omega
  ·have a7:uI d=true:=by
    rcases WV.1 (V8 X) with hm|hm
    ·exact f1 d hm
    ·exact f3 d hm
   have hx:=q7 j (DB d) (by rw[VC];simp only at X;rw[X];rfl);have:arr.getD (g.2+j) undef=DB d:=by rw[VL,hx];rfl
   rw[this];exact Ot a7) rfl
 have a8:bj (forget (bj h y (some (⟨O.v,O.ty,[],false,false,false⟩:Row))) (some k')) k' (some (⟨r.v,p.ty,r.cells++cs,false,true,false⟩:Row)) y=some ⟨O.v,O.ty,[],false,false,false⟩:=by
  rw[al _ _ hyk];simp only[forget];rw[al _ _ hyk,aj]
 have aI:bj blk k' (some g) y=some gy:=by rw[al _ _ hyk,Y]
 have aK:gy.2<(ya.setIfInBounds gy.2 nu).size:=by simpa using y2
 have hB:=hA.gY (r0:=⟨O.v,O.ty,[.ph k' p.k (n+1)],false,false,true⟩) (w':=w') a8 rfl rfl rfl rfl rfl (VG _) (fun b _ _=>rfl) (by
  rw[aI];refine⟨rfl,.inr ⟨fun d hd=>by simp only[V3]at hd;subst hd;rfl,_,q2,by simp only[List.length_singleton];omega,fun j d X =>?_⟩⟩;cases j with
  | zero=>simp only[List.getElem?_cons_zero,VP]at X;subst X;trivial
  | succ j=>simp at X) (fun h=>by cases h) (fun _ g' aM j x' s' n' hc=>by
  rw[aI]at aM;cases aM;cases j with
  | succ j=>simp at hc
  | zero =>
  simp only[List.getElem?_cons_zero,VP,D.ph.injEq]at hc;obtain⟨rfl,rfl,rfl⟩:=hc;rw[Wf];refine⟨⟨aB,.inl aA⟩,nu,?_,fun r' _ =>.inl ⟨g,c,arr.size,p.ty,aj _ _ _,aY.symm,q6,q4,q5,by simp[World.shape?,q3]⟩⟩;rw[aL q2 aK];simp[VL,y2])
 have heq:ay h [(k',some (⟨r.v,p.ty,r.cells++cs,false,true,false⟩:Row)),(y,some ⟨O.v,O.ty,[.ph k' p.k (n+1)],false,false,true⟩)]=bj (bj (forget (bj h y (some (⟨O.v,O.ty,[],false,false,false⟩:Row))) (some k')) k' (some (⟨r.v,p.ty,r.cells++cs,false,true,false⟩:Row))) y (some ⟨O.v,O.ty,[.ph k' p.k (n+1)],false,false,true⟩):=by
  funext z;simp only[ay,forget,bj]
  by_cases aa:z=y
  ·rw[if_pos aa,if_pos aa]
  ·rw[if_neg aa,if_neg aa]
   by_cases ab:z=k'
   ·rw[if_pos ab,if_pos ab]
   ·rw[if_neg ab,if_neg ab,if_neg ab,if_neg aa]
 show Inv _ _ _ _ _ _ _ (ay h _) _ _;rw[heq];exact hB.weaken fun _ _ h =>.inl h
theorem LY (hΓ:bt P Γ) (hI:Inv N M L w0 blk V t h a w) {c:Call} {f:Operand} {E:aR} (ho:o.op=.call c) (hc:c.callee=.value f) (hV:∀d,o.dst=some d->fY N V d e) (hP:∀x v,V x v->x<N∨2*PK<=x) (hE:eV Γ h e o.dst (ev t f) (c.args.toList.map (ev t))=some E):db P o a w (aJ N M L w0 V t h a e o.dst E):=by
 have hf:=hI.ev f;have O:∀(j:Nat) d,(c.args.toList.map (ev t))[j]? = some d->RT w (Own M h blk) h blk V d ((c.args.map a.eval).getD j undef):=by
  intro j d Z;rw[VC]at Z;cases hx:c.args.toList[j]? with
  | none=>simp[hx]at Z
  | some x =>
   simp only[hx,Option.map_some,VP]at Z;subst Z;have:(c.args.map a.eval).getD j undef=a.eval x:=by
    have al:c.args[j]? = some x:=by simpa using hx
    simp[al]
   rw[this];exact hI.ev x
 have U:(c.args.map a.eval).size=(c.args.toList.map (ev t)).length:=by simp
 have ai:∀ {g:Nat} {fs caps:Array Value},a.eval f=.func (.func g) fs caps->cu P g->(execOp a.eval o).run P w=.ok (.enter g (fs++c.args.map a.eval++caps)) w:=by
  intro g fs caps Y ⟨fn,an,ah,aa⟩;have hn:¬fn.name = "runtime.NumGoroutine":=by simpa using ah
  have hb:¬fn.body=none:=by
   intro h0;rw[h0]at aa;cases aa
  simp[execOp,ho,resolve,hc,Y,Deferred.ofValue,invoke,callFunc,program,Sem.run,an,hn,hb]
 generalize c.args.toList.map (ev t)=ds at *;generalize c.args.map a.eval=vs at *;generalize ev t f=q at *;have done:∀ {g:Nat} {fs caps:Array Value} {args:Array Value},a.eval f=.func (.func g) fs caps->args=fs++vs++caps->(cu P g∧Calls P g args w fun e' w'=>∃v,e'=.returned v∧aJ N M L w0 V t h a e o.dst E v w')->db P o a w (aJ N M L w0 V t h a e o.dst E) :=
  fun Y O ⟨h1,h2⟩ =>.inr (.inr ⟨_,_,O ▸ ai Y h1,h2⟩)
 cases q with
 | fn g =>
  have Y:a.eval f=.func (.func g) #[] #[]:=by
   have ao:RP w (Own M h blk) (.fn g) (a.eval f):=hf;generalize a.eval f=u at *;cases ao;rfl
  simp only[eV]at hE;split at hE
  ·rename_i p hp;exact done Y (by simp) (NH (hΓ.ins g p hp) hI hE hV U O)
  split at hE
  ·rename_i p hp;exact done Y (by simp) (NF (hΓ.grw g p hp) hI hP hE U O)
  split at hE
  ·split at hE
   ·rename_i x v s c0 n rest;have X:(vs.extract 1 vs.size).size=rest.length:=by simp at U ⊢;omega
    have ab:vs = #[vs.getD 0 undef]++vs.extract 1 vs.size:=by
     have:0<vs.size:=by simp at U;omega
     apply Array.ext
     ·simp;omega
     ·intro i h1 h2;cases i with
      | zero=>simp[WQ this]
      | succ i=>simp[WU];congr 1;omega
    have h0:=O 0 _ rfl;refine done Y (by simpa using ab.symm) (wF hΓ hI hE hV h0.1 (fun r hl=>(hI.Rz hl).1 _ _ _ h0) X (fun j d Z =>?_));have:=O (j+1) d (by simpa using Z);have e1:(vs.extract 1 vs.size).getD j undef=vs.getD (j+1) undef:=by
     simp only[VL];congr 1;rw[WW];split
     ·congr 1;omega
     ·rename_i hh;rw[WX (by omega)]
    rw[e1];exact this
   ·rename_i x v c0 rest;have X:(vs.extract 1 vs.size).size=rest.length:=by simp at U ⊢;omega
    have ab:vs = #[vs.getD 0 undef]++vs.extract 1 vs.size:=by
     have:0<vs.size:=by simp at U;omega
     apply Array.ext
     ·simp;omega
     ·intro i h1 h2;cases i with
      | zero=>simp[WQ this]
      | succ i=>simp[WU];congr 1;omega
    have h0:=O 0 _ rfl;refine done Y (by simpa using ab.symm) (wF hΓ hI hE hV h0.1 (fun r hl=>(hI.Rz hl).2 _ h0) X (fun j d Z =>?_));have:=O (j+1) d (by simpa using Z);have e1:(vs.extract 1 vs.size).getD j undef=vs.getD (j+1) undef:=by
     simp only[VL];congr 1;rw[WW];split
     ·congr 1;omega
     ·rename_i hh;rw[WX (by omega)]
    rw[e1];exact this
   ·rename_i x v rest;have X:(vs.extract 1 vs.size).size=rest.length:=by simp at U ⊢;omega
    have ab:vs = #[vs.getD 0 undef]++vs.extract 1 vs.size:=by
     have:0<vs.size:=by simp at U;omega
     apply Array.ext
     ·simp;omega
     ·intro i h1 h2;cases i with
      | zero=>simp[WQ this]
      | succ i=>simp[WU];congr 1;omega
    have h0:=O 0 _ rfl;refine done Y (by simpa using ab.symm) (wF hΓ hI hE hV h0.1 (fun r hl=>hI.Ry hl h0) X (fun j d Z =>?_));have:=O (j+1) d (by simpa using Z);have e1:(vs.extract 1 vs.size).getD j undef=vs.getD (j+1) undef:=by
     simp only[VL];congr 1;rw[WW];split
     ·congr 1;omega
     ·rename_i hh;rw[WX (by omega)]
    rw[e1];exact this
   ·cases hE
  ·exact done Y (by simp) (D2 hΓ hI hE hV U O)
 | clo g kk caps =>
  obtain⟨us,k1,k2,k3⟩:=hf;simp only[eV]at hE
  by_cases aj:caps.all fU=true
  rotate_left
  ·rw[if_neg aj]at hE;cases hE
  rw[if_pos aj]at hE;have aq:((us.take kk).toArray++vs++(us.drop kk).toArray).toList=us.take kk++(vs.toList++us.drop kk):=by simp
  have ar:(us.take kk).length=(caps.take kk).length:=by rw[VZ,VZ,k2]
  have X:vs.toList.length=ds.length:=by simpa using U
  refine done k1 rfl (D2 hΓ hI hE hV (by simp[U,k2]) (fun j d Z =>?_));have ak:((us.take kk).toArray++vs++(us.drop kk).toArray).getD j undef=(us.take kk++(vs.toList++us.drop kk)).getD j undef:=by
   rw[<- aq,VL,Wj,Ww]
  rw[ak,Wj];rw[Wn]at Z ⊢;rw[ar];split at Z
  ·rename_i ae;rw[if_pos ae];have au:j<kk:=by rw[VZ]at ae;omega
   rw[VW,if_pos au]at Z ⊢;have:=vX (k3 _ d Z)
   rwa [Wj]at this
  ·rename_i ae;rw[if_neg ae];rw[Wn]at Z ⊢;rw[X];split at Z
   ·rename_i ad;rw[if_pos ad];have:=O _ d Z;rw[VL]at this;simpa using this
   ·rename_i ad;rw[if_neg ad];rw[VX]at Z ⊢;have:=vX (k3 _ d Z)
    rwa [Wj]at this
 | _=>simp[eV]at hE
theorem RT.UO {d:D} {n:Nat} {u:Value} (hI:Inv N M L w0 blk V t h a w) (O:sB d=some n) (Y:alive h d=true) (X:RT w (Own M h blk) h blk V d u) :
  (∀s,d=.str s->u=.string s∧s.size=n)∧((∀s,d ≠ .str s)->∃A c,u=.slice A n c):=by
 cases d with
 | str s =>
  simp only[sB,VP]at O;refine⟨fun Z hs =>?_,fun hn=>absurd rfl (hn s)⟩;cases hs;exact⟨vZ X,O⟩
 | sl nl tight m xs =>
  simp only[sB,VP]at O;subst O;refine⟨fun Z hs=>(by cases hs),fun _ =>?_⟩;have U:RP w (Own M h blk) (.sl nl tight m xs) u:=X;cases U with
  | sl A c nl tight n xs us h1 h2 h3 h4 h5 h6 h7 h8=>exact⟨A,c,rfl⟩
 | buf x v s o m =>
  simp only[sB,VP]at O;subst O;refine⟨fun Z hs=>(by cases hs),fun _ =>?_⟩;simp only[alive,Option.isSome_iff_exists]at Y;obtain⟨r,U⟩:=Y;obtain⟨hx,hv⟩:=lu U;rcases X.2 r hx hv with⟨g,o',c,N',t',_,g1,_⟩|⟨_,rfl,A,g1⟩
  ·exact⟨_,c,g1⟩
  ·exact⟨A,0,g1⟩
 | _=>simp[sB]at O
theorem He (k:IntKind):∀(ds:List D) (us:List Value) (x z:Int),rA (fun x y=>if y>x then y else x) k x ds=some z->us.length=ds.length->(∀j d,ds[j]? = some d->RT w (Own M h blk) h blk V d (us.getD j undef)) ->
  (us.foldlM Builtin.max2 (.int k x)).run P w=.ok (.int k z) w
 | [],us,x,z,hm,U,_=>by
  have:us=[]:=WY U;subst this;simp only[rA,VP]at hm;subst hm;rfl
 | d::ds,us,x,z,hm,U,X=>by
  cases us with
  | nil=>simp at U
  | cons u us =>
   have hu:=X 0 d rfl;cases d with
   | int k' y =>
    simp only[rA]at hm;split at hm
    ·have O:=iW hu;simp only[WK]at O;subst O;have Y:=He k ds us _ z hm (by simpa using U) (fun j d Z=>by simpa using X (j+1) d (by simpa using Z));simp only[List.foldlM_cons,Wd,Builtin.max2,Sem.run_pure,Result.andThen_ok];exact Y
    ·cases hm
   | _=>simp[rA]at hm
theorem Hf (k:IntKind):∀(ds:List D) (us:List Value) (x z:Int),rA (fun x y=>if y<x then y else x) k x ds=some z->us.length=ds.length->(∀j d,ds[j]? = some d->RT w (Own M h blk) h blk V d (us.getD j undef)) ->
  (us.foldlM Builtin.min2 (.int k x)).run P w=.ok (.int k z) w
 | [],us,x,z,hm,U,_=>by
  have:us=[]:=WY U;subst this;simp only[rA,VP]at hm;subst hm;rfl
 | d::ds,us,x,z,hm,U,X=>by
  cases us with
  | nil=>simp at U
  | cons u us =>
   have hu:=X 0 d rfl;cases d with
   | int k' y =>
    simp only[rA]at hm;split at hm
    ·have O:=iW hu;simp only[WK]at O;subst O;have Y:=Hf k ds us _ z hm (by simpa using U) (fun j d Z=>by simpa using X (j+1) d (by simpa using Z));simp only[List.foldlM_cons,Wd,Builtin.min2,Sem.run_pure,Result.andThen_ok];exact Y
    ·cases hm
   | _=>simp[rA]at hm
end
section
variable {P:Program} {T:Nat->Option Ty} {N:Nat} {M:Nat->Prop} {L:fV} {w0:World} {blk:Nat->Option (Nat×Nat)} {V:Nat->Nat->Prop} {t:Nat->D} {h:Nat->Option Row} {a:Act} {w:World} {e:Nat} {o:Oper} {Γ:Env}
theorem Inv.content (hI:Inv N M L w0 blk V t h a w) {d:D} {m s:Nat} {news:List D} {u:Value} (hs:0<s) (X:content h d=some (m,news)) (hl:news.length=m*s) (hr:RT w (Own M h blk) h blk V d u) :
  ∃(A:Option Addr) (c:Nat) (us:List Value),u=.slice A m c∧m<=c∧us.length=news.length∧(∀j x,news[j]? = some x->aF x=true∧RP w (Own M h blk) x (us.getD j undef)) ∧
   (∀ad,A=some ad->∀j v,us[j]? = some v->w.cell? (ad.add j)=some v)∧(A=none->m=0∧c=0):=by
 cases d with
 | sl nl tight n xs =>
  simp only[Am.content,VP,Prod.mk.injEq]at X;obtain⟨rfl,rfl⟩:=X;have aa:RP w (Own M h blk) (.sl nl tight n xs) u:=hr;cases aa with
  | sl A c nl tight n xs us h1 h2 h3 h4 h5 h6 h7 h8 =>
   refine⟨A,c,(List.range xs.length).map us,rfl,h1,by simp,fun j x U=>⟨h8 x (V8 U),?_⟩,fun ad Y j v U =>?_,h4⟩
   ·have O:=(V9.1 U).1;have:((List.range xs.length).map us).getD j undef=us j:=by simp[List.getD,O]
    rw[this];exact h7 j x U
   ·obtain⟨O,he⟩:=V9.1 U;simp only[Wa,Wb]at O;simp only[List.getElem_map,Wc]at he;have ab:xs≠[]:=by rintro rfl;simp at O
    obtain⟨b,o,Z,_,_,g3⟩:=h6 ab;rw[Y]at Z;simp only[VP]at Z;subst Z;rw[kO,<- he];exact g3 j O
 | buf x v z q n =>
  simp only[Am.content]at X;split at X
  ·rename_i r ae;split at X
   ·rename_i hle;simp only[VP,Prod.mk.injEq]at X;obtain⟨rfl,rfl⟩:=X;rcases hI.rS ae hr with⟨g,o',c,cs,g0,g1,g2,g3,g4,g5,g7,g8⟩|⟨g0,rfl,g2,A,g3⟩
    ·have hlen:((r.cells.drop q).take (n*z)).length=n*z:=by simp;omega
     rw[hlen]at hl;refine⟨_,c,(List.range (n*z)).map (fun j=>cs.getD (g.2+(q+j)) undef),g1,g2,by simp;omega,fun j x U =>?_,fun ad Y j v U =>?_,fun Y=>by cases Y⟩
     ·rw[bx]at U;split at U
      ·rename_i ah;have:((List.range (n*z)).map (fun j=>cs.getD (g.2+(q+j)) undef)).getD j undef=cs.getD (g.2+(q+j)) undef:=by simp[List.getD,ah]
       rw[this];exact g8 _ _ U
      ·cases U
     ·obtain⟨O,he⟩:=V9.1 U;simp only[Wa,Wb]at O;simp only[List.getElem_map,Wc]at he;simp only[VP]at Y;subst Y;have hn:0<n:=by
       rcases VY n with h0|h0
       ·subst h0;simp at O
       ·exact h0
      have:=(g5 (.inl (by omega))).1;subst this;rw[kO,<- he,V1];exact aL g4 (by omega)
    ·refine⟨A,0,[],g3,VG _,by simp,fun j x U=>by simp at U,fun ad Y j v U=>by simp at U,fun _=>⟨rfl,rfl⟩⟩
   ·cases X
  ·cases X
 | _=>simp[Am.content]at X
theorem DQ {M':Nat->Prop} {olds news:List D} {xs us:List Value} {cur:Array Value} {b:Nat} (X:xs.length=olds.length) (aa:us.length=news.length) (O:(cur.toList.drop b).take (olds.length+news.length)=xs++us)
  (h1:∀j x,olds[j]? = some x->aF x=true∧RP w M' x (xs.getD j undef)) (h2:∀j x,news[j]? = some x->aF x=true∧RP w M' x (us.getD j undef)) (j:Nat) (x:D) (U:(olds++news)[j]? = some x) :
  aF x=true∧RP w M' x (cur.getD (b+j) undef):=by
 have Y:j<olds.length+news.length:=by
  have:=(V9.1 U).1;simpa using this
 have hg:cur.getD (b+j) undef=(xs++us).getD j undef:=by
  rw[<- O];simp only[Wj,VW,if_pos Y,VX];simp
 rw[hg]
 by_cases Z:j<olds.length
 ·rw[Wk Z]at U;have:(xs++us).getD j undef=xs.getD j undef:=by
   simp only[Wj];rw[Wk (by omega)]
  rw[this];exact h1 j x U
 ·rw[Wl (by omega)]at U;have:(xs++us).getD j undef=us.getD (j-olds.length) undef:=by
   simp only[Wj];rw[Wl (by omega),X]
  rw[this];exact h2 _ x U
theorem O8 {M':Nat->Prop} {news:List D} {us:List Value} (X:us.length=news.length) (h2:∀j x,news[j]? = some x->aF x=true∧RP w M' x (us.getD j undef)):∀u∈us,u.oneCell'=true:=by
 intro u hu;obtain⟨j,O⟩:=V2 hu;have Y:=(V9.1 O).1;obtain⟨Z,U⟩:=h2 j _ (VT (by omega));have:us.getD j undef=u:=by simp[List.getD,O]
 rw[this]at U;exact U.nH Z
theorem ke (t ty el:Nat) {τ:Ty} (U:P.underlying t=some (.slice el)) {φ:Ty} (X:fW P el φ) (A B:Option Addr) (n c k:Nat) (Y:n<=c):(Builtin.append_ #[t,t] ty #[.slice A n c,.slice B 0 k]).run P w=.ok (.slice A n c) w:=by
 have O:(Builtin.firstCells φ.size 0 (.slice B 0 k)).run P w=.ok #[] w:=by
  cases B with
  | none=>simp[Builtin.firstCells]
  | some b=>simp[Builtin.firstCells,loadCells,loadCellsFrom]
 cases A with
 | none=>simp[Builtin.append_,run_underlying U,run_sizeOf X,Builtin.lenOf,Y,O]
 | some b=>simp[Builtin.append_,run_underlying U,run_sizeOf X,Builtin.lenOf,Y,O,storeCells]
theorem yJ (t ty el:Nat) {φ:Ty} (hd:P.underlying t=some (.slice el)) (hφ:fW P el φ) (al:0<φ.size) (ae:φ.zero.length=φ.size) (A:Option Addr) (n cap:Nat) (xs:List Value) (X:xs.length=n*φ.size)
  (ah:∀ad,A=some ad->∀j u,xs[j]? = some u->w.cell? (ad.add j)=some u) (hA:A=none->n=0∧cap=0) (b:Addr) (m c:Nat) (us:List Value) (O:us.length=m*φ.size)
  (aa:∀j u,us[j]? = some u->w.cell? (b.add j)=some u) (hg:cap<n+m) (ab:n+m<=maxLen) (hb:(n+m)*φ.bytes<=140737488355328) :
  ∃k vs,(Builtin.append_ #[t,t] ty #[.slice A n cap,.slice (some b) m c]).run P w=.ok (.slice (some ⟨w.heap.size,0,none⟩) (n+m) k) (w.drew.alloc (.cells vs el))∧n+m<=k∧k<=maxLen∧k*φ.size=vs.size∧vs.toList.take ((n+m)*φ.size)=xs++us:=by
 obtain⟨d',i,z,i1,i2,i3,i4,i5,i6,i7⟩:=hφ.get;have ai:z.cells.size=φ.size:=by rw[i7];simpa using ae
 have U:((n+m:Nat):Int)<=9223372036854775807:=by simp only[maxLen]at ab;omega
 have hlen:(xs++us).length=(n+m)*φ.size:=by rw[WN,X,O,WT]
 have Y:=grownCap_ge w (n+m) cap el;have Z:grownCap w (n+m) cap el<=maxLen:=grownCap_le_maxLen w (n+m) cap el ab;have fin:∀vs:Array Value,vs=xs.toArray++us.toArray++Builtin.zeroCells z.cells (grownCap w (n+m) cap el-(n+m))->grownCap w (n+m) cap el*φ.size=vs.size∧vs.toList.take ((n+m)*φ.size)=xs++us:=by
  intro vs aj;subst aj;refine⟨?_,?_⟩
  ·simp only[Array.size_append,List.size_toArray,size_zeroCells,ai,X,O,<- WT];congr 1;omega
  ·simp only[WZ,W0];rw[<- W0,<- hlen];exact List.take_left
 cases A with
 | some ad =>
  have hr:=run_append_grow (P:=P) w t ty el i z hd i3 i6 ad n cap xs (by rw[i4];exact X) (ah ad rfl) b m c us (by rw[i4];exact O) aa hg U (growslice_fits hg (by rw[i5];exact hb));obtain⟨f1,f2⟩:=fin _ rfl;exact⟨_,_,hr,Y,Z,f1,f2⟩
 | none =>
  obtain⟨rfl,rfl⟩:=hA rfl;have ak:xs=[]:=WY (by omega);subst ak;have hr:=run_append_nil (P:=P) w t ty el i z hd i3 i6 b m c us (by rw[i4];exact O) aa (by omega) (by simpa using U) (by rw[i5];simp only[Wt]at hb;omega);simp only[Wt]at Y Z fin ⊢;obtain⟨f1,f2⟩:=fin _ rfl;refine⟨_,_,hr,Y,Z,?_,?_⟩
  ·simpa using f1
  ·simpa using f2
theorem zr (t ty el:Nat) {φ:Ty} (hd:P.underlying t=some (.slice el)) (hφ:fW P el φ) (g q n cap:Nat) (cur:Array Value) (hg:w.heap[g]? = some (.cells cur el (0,0))) (b:Addr) (m c:Nat) (us:List Value) (Y:us.length=m*φ.size)
  (Z:∀j u,us[j]? = some u->w.cell? (b.add j)=some u) (h1:∀u∈us,u.oneCell'=true) (O:n+m<=cap) (U:q+n*φ.size+us.length<=cur.size) :
  (Builtin.append_ #[t,t] ty #[.slice (some ⟨g,q,none⟩) n cap,.slice (some b) m c]).run P w =
   .ok (.slice (some ⟨g,q,none⟩) (n+m) cap) (w.setRow g (cur.toList.take (q+n*φ.size)++us++cur.toList.drop (q+n*φ.size+us.length)).toArray):=by
 obtain⟨d',i,z,i1,i2,i3,i4,i5,i6,i7⟩:=hφ.get;have hf:=run_firstCells_some (P:=P) w i.size m b m c us (by rw[i4];exact Y) Z;have X:=run_storeCells_at P g (q+n*i.size) el us 0 cur w hg (by rw[i4];simpa using U) h1;simp only[Nat.add_zero]at X;rw[<- i4];simp[Builtin.append_,run_underlying hd,sizeOf,typeInfo,i3,Builtin.lenOf,O,hf,kO,X]
theorem th {α:Type} (l us rest:List α) (b k:Nat) (h:b+k<=l.length):((l.take (b+k)++us++rest).drop b).take (k+us.length)=(l.drop b).take k++us:=by
 have h1:((l.drop b).take k).length=k:=by simp;omega
 rw[W0,W1 (by simp;omega),List.drop_take,W2,W3,h1,W2,W4 (VG _),W5 (l:=us) (VG _),W5 (by rw[h1];omega)]
theorem EM (hT:fb P T) (hI:Inv N M L w0 blk V t h a w) {c:Call} {s x:Operand} {ty d:Nat} {τ:Ty} {E:aR} (ho:o.op=.call c) (hc:c.callee=.builtin .append) (aE:c.args = #[s,x]) (aT:c.argTypes = #[ty,ty]) (hd:o.dst=some d)
  (hV:fY N V d e) (hτ:T ty=some τ) (X:fI T τ h e d (ev t s) (ev t x)=some E):db P o a w (aJ N M L w0 V t h a e o.dst E):=by
 have ak:=hI.ev s;have aG:=hI.ev x;generalize ev t s=qs at *;generalize ev t x=qx at *;obtain⟨dd,ao,aU⟩:=under hT hτ;have Y:∀v w',(Builtin.append_ #[ty,ty] o.type #[a.eval s,a.eval x]).run P w=.ok v w'->(execOp a.eval o).run P w=.ok (.value v) w':=by
  intro v w' hr;simp[execOp,ho,resolve,hc,aE,aT,invoke,builtin,hr]
 unfold fI at X;split at X
 ·rename_i el a6;rw[a6]at aU;have:=dJ aU;subst this;split at X
  ·rename_i φ m news hφ ah;split at X
   ·rename_i U;have grow:∀(old:Option Nat) (A:Option Addr) (n cap:Nat) (xs:List Value) (olds:List D),(∀y,old=some y->∃r,h y=some r∧r.fz=false)->a.eval s=.slice A n cap->n<=cap->(A=none->n=0∧cap=0)->xs.length=n*φ.size->olds.length=xs.length ->
      (∀ad,A=some ad->∀j u,xs[j]? = some u->w.cell? (ad.add j)=some u)->(∀(j:Nat) x,olds[j]? = some x->aF x=true∧RP w (Own M h blk) x (xs.getD j undef))->cap<n+m->n+m<=maxLen->(n+m)*φ.bytes<=140737488355328->news.length=m*φ.size ->
      E=⟨.buf d e φ.size 0 (n+m),(match old with|some y=>[(y,none)]|none=>[])++[(d,some ⟨e,el,olds++news,false,true,false⟩)]⟩->db P o a w (aJ N M L w0 V t h a e o.dst E):=by
     intro old A n cap xs olds hold hs bp hA aH Z a7 holds a8 ba bb aI bc;obtain⟨B,cb,us,al,aC,aq,ar,ax,ay⟩:=hI.content U.1 ah aI aG;cases B with
     | none =>
      have:=(ay rfl).1;subst this;omega
     | some b =>
      obtain⟨k,vs,aa,g1,g2,g3,g4⟩:=yJ (P:=P) (w:=w) ty o.type el ao (hT el φ hφ) U.1 U.2 A n cap xs aH a7 hA b m cb us (by omega) (ax b rfl) a8 ba bb;have hb:Below w.heap.size w (w.drew.alloc (.cells vs el)):=((Below.refl _ _).drew).alloc (by simp) _;refine av (Y _ _ (by rw[hs,al];exact aa)) ?_;have:=hI.fresh (old:=old) (dst:=o.dst) (e:=e) (d:=d) (ty:=el) (s:=φ.size) (n:=n+m) (cells:=olds++news) (w':=w.drew.alloc (.cells vs el)) (v := .slice (some ⟨w.heap.size,0,none⟩) (n+m) k) hd hV (cC.sI hb) hold
       (.inl ⟨(w.heap.size,0),k,vs,rfl,.inl (VG _),by simpa using heap_alloc_new w.drew (.cells vs el),g1,g2,by simpa using g3,?_,fun j y hj =>?_⟩)
      ·subst bc;unfold aJ;cases old with
       | none=>exact this
       | some y=>exact this
      ·simp only[Wt,WN,Z,aH,aI,<- WT];rw[<- g3];exact Ws _ g1
      ·have an:=DQ (b:=0) (M':=Own M h blk) (w:=w) (olds:=olds) (news:=news) (xs:=xs) (us:=us) (cur:=vs) Z.symm aq (by rw[W6,Z,aH,aI,<- WT];exact g4) holds ar j y hj;simp only[Wt]at an ⊢;refine⟨an.1,an.2.keep fun b k1 k2=>⟨VJ k1 hb.size,fun aK =>?_,hb.block b k1⟩⟩;rcases aK with aK|rfl
       ·exact k2 (rE aK)
       ·omega
    split at X
    ·rename_i nl tight n xs;split at X
     ·rename_i ai;obtain⟨k1,k2,k3,k4,k5⟩:=ai;split at X
      ·rename_i hm;subst hm;simp only[VP]at X;subst X;obtain⟨A,cx,us,al,aC,aq,ar,ax,ay⟩:=hI.content U.1 ah k5 aG;obtain⟨B,cb,az,O,ab,_⟩:=hI.content (d := .sl nl tight n xs) U.1 rfl k4 ak;refine av (Y _ _ (by rw[O,al];exact ke (τ:=τ) ty o.type el ao (hT el φ hφ) B A n cb cx ab)) (aJ.ct hI ?_);rw[<- O];exact ak
      ·rename_i hm;simp only[VP]at X;obtain⟨B,cb,az,O,ab,bd,aL,aM,aN⟩:=hI.content (d := .sl nl tight n xs) U.1 rfl k4 ak;have aV:cb=n:=by
        have aW:RP w (Own M h blk) (.sl nl tight n xs) (a.eval s):=ak;generalize a.eval s=u at *;cases aW with
        | sl A' c' nl tight n xs bq h1 h2 h3 h4 h5 h6 h7 h8 =>
         simp only[Value.slice.injEq]at O;obtain⟨_,_,rfl⟩:=O;exact h5 k1
       subst aV;exact grow none B cb cb az xs (fun y hy=>by cases hy) O ab (fun h=>(aN h)) (by omega) (by omega) aM aL (by omega) k2 k3 k5 X.symm
     ·cases X
    ·rename_i y v zz q n;split at X
     ·rename_i r aO;split at X
      ·rename_i ai;obtain⟨k1,k2,k3,k4,k5,k6,k7⟩:=ai;subst k1;simp only[VP]at X;obtain⟨aA,br⟩:=bg aO;have aB:Am.content h (.buf y v φ.size q n)=some (n,(r.cells.drop q).take (n*φ.size)):=by simp only[Am.content,aO,if_pos k4]
       have Z:((r.cells.drop q).take (n*φ.size)).length=n*φ.size:=by simp;omega
       obtain⟨B,cb,az,O,ab,bd,aL,aM,aN⟩:=hI.content U.1 aB Z ak
       by_cases aj:n+m<=cb
       ·obtain⟨A,cx,us,al,aC,aq,ar,ax,ay⟩:=hI.content U.1 ah k7 aG;have empty:cb=0->db P o a w (aJ N M L w0 V t h a e o.dst E):=by
         intro h0;have bf:n=0:=by omega
         have bh:m=0:=by omega
         subst bf bh h0;have aP:news=[]:=WY (by omega);subst X aP;refine av (Y _ _ (by rw[O,al];exact ke (τ:=τ) ty o.type el ao (hT el φ hφ) B A 0 0 cx (VG _))) ?_;have:=hI.fresh (old:=some y) (dst:=o.dst) (e:=e) (d:=d) (ty:=el) (s:=φ.size) (n:=0) (cells:=[]) (w':=w) (v := .slice B 0 0) hd hV (cC.refl _ _) (fun y' au=>by cases au;exact⟨r,aA,k3⟩) (.inr ⟨rfl,rfl,B,rfl⟩);unfold aJ;have e0:(r.cells.drop q).take (0*φ.size)++[]=[]:=by simp
         rw[e0];exact this
        rcases hI.rS aO ak with⟨g,o',ae,cs,g0,g1,g2,g3,g4,g5,g7,g8⟩|⟨g0,g1,g2,A',g3⟩
        ·have bj:ae=cb:=by rw[g1]at O;simp at O;exact O.2
         subst bj
         by_cases bk:0<ae∨q=0
         ·obtain⟨bl,bm⟩:=g5 bk;subst bl;have aQ:(n+m)*φ.size<=ae*φ.size:=Ws _ aj;rw[WT]at aQ;have aX:g.2+q+n*φ.size+us.length<=cs.size:=by omega
          have aY:((cs.toList.drop (g.2+q)).take (n*φ.size)).length=n*φ.size:=by simp;omega
          have aa:∃cur,(Builtin.append_ #[ty,ty] o.type #[a.eval s,a.eval x]).run P w=.ok (.slice (some ⟨g.1,g.2+q,none⟩) (n+m) ae) (w.setRow g.1 cur)∧cur.size=cs.size∧(cur.toList.drop (g.2+q)).take (n*φ.size+m*φ.size)=(cs.toList.drop (g.2+q)).take (n*φ.size)++us:=by
           rw[al,g1];cases A with
           | some ad =>
            refine⟨_,zr (P:=P) ty o.type el ao (hT el φ hφ) g.1 (g.2+q) n ae cs (by rw[<- k2];exact g4) ad m cx us (by omega) (ax ad rfl) (O8 aq ar) aj aX,by simp;omega,?_⟩;have:=th cs.toList us (cs.toList.drop (g.2+q+n*φ.size+us.length)) (g.2+q) (n*φ.size) (by simp;omega);have aZ:us.length=m*φ.size:=by omega
            rw[aZ]at this;rw[aZ];exact this
           | none =>
            obtain⟨rfl,rfl⟩:=ay rfl;have bn:us=[]:=WY (by omega);subst bn;refine⟨cs,?_,rfl,by simp⟩;rw[setRow_self w g.1 cs r.ty (0,0) g4];exact ke (τ:=τ) ty o.type el ao (hT el φ hφ) _ _ n ae 0 g2
          obtain⟨cur,aa,a1,aS⟩:=aa;subst X;have aD:Own M h blk g.1 := .inr ⟨y,r,g,aA,k3,g0,rfl⟩;have hheap:∀b,b≠g.1->(w.setRow g.1 cur).heap[b]? = w.heap[b]?:=by
           intro b hb;simp only[World.setRow,VQ];rw[if_neg (Ne.symm hb)]
          have aw:(w.setRow g.1 cur).heap.size=w.heap.size:=by simp[World.setRow]
          refine av (Y _ _ aa) ?_;have:=hI.fresh (old:=some y) (dst:=o.dst) (e:=e) (d:=d) (ty:=el) (s:=φ.size) (n:=n+m) (cells:=(r.cells.drop q).take (n*φ.size)++news) (w':=w.setRow g.1 cur) (v := .slice (some ⟨g.1,g.2+q,none⟩) (n+m) ae) hd hV
           ⟨rfl,rfl,rfl,by rw[aw];exact VG _,fun b _ hb=>hheap b (fun he=>hb ⟨y,g,rfl,g0,he⟩)⟩ (fun y' au=>by cases au;exact⟨r,aA,k3⟩)
           (.inl ⟨(g.1,g.2+q),ae,cur,rfl,.inr ⟨y,g,rfl,g0,rfl⟩,by rw[<- k2];exact setRow_heap w g.1 cs cur r.ty (0,0) g4,aj,g3,by rw[a1];exact bm,by simp only[WN,Z];omega,fun j z hj =>?_⟩)
          ·unfold aJ;exact this
          ·have an:=DQ (b:=g.2+q) (M':=Own M h blk) (w:=w) (olds:=(r.cells.drop q).take (n*φ.size)) (news:=news) (xs:=(cs.toList.drop (g.2+q)).take (n*φ.size)) (us:=us) (cur:=cur) (by rw[Z,aY]) aq (by rw[Z,k7];exact aS)
            (fun j z hj=>by
             rw[bx]at hj;split at hj
             ·rename_i bo;have:=g8 _ _ hj;have he:((cs.toList.drop (g.2+q)).take (n*φ.size)).getD j undef=cs.getD (g.2+(q+j)) undef:=by
               simp only[Wj,bx,if_pos bo,V1];simp
              rw[he];exact this
             ·cases hj) ar j z hj
           refine⟨an.1,an.2.keep fun b q1 q2=>⟨by rw[aw];exact q1,?_,hheap b (fun he=>q2 (he ▸ aD))⟩⟩;rintro (hb|rfl)
           ·exact q2 (rE hb)
           ·exact q2 aD
         ·exact empty (by omega)
        ·rw[g3]at O;simp only[Value.slice.injEq]at O;exact empty (by omega)
       ·exact grow (some y) B n cb az _ (fun y' au=>by cases au;exact⟨r,aA,k3⟩) O ab (fun h=>(aN h)) (by omega) (by omega) aM aL (by omega) k5 k6 k7 X.symm
      ·cases X
     ·cases X
    ·cases X
   ·cases X
  ·cases X
 ·cases X
end
section
variable {P:Program} {T:Nat->Option Ty} {N:Nat} {M:Nat->Prop} {L:fV} {w0:World} {blk:Nat->Option (Nat×Nat)} {V:Nat->Nat->Prop} {t:Nat->D} {h:Nat->Option Row} {a:Act} {w:World} {e:Nat} {o:Oper} {Γ:Env}
theorem Hi {s:Ds} {x:D} (hk:kindOk s x=true):s.ko=false∧gZ s=true:=by
 cases s<;>cases x<;>simp[kindOk]at hk<;>exact⟨rfl,rfl⟩
theorem rI (hT:fb P T) (n:Nat) {M':Nat->Prop} {us vs:List Value} : ∀(F:List Field) (o:Nat) (xs O:List D) (b:Bool),(∀f∈F,f.name ≠ "_")->dq T o (F.map fun f=>(f.type,f.offset)) xs=true->Kl xs O=some b ->
  (∀j x,xs[j]? = some x->RP w M' x (us.getD (o+j) undef)∧o+j<us.length)->(∀j y,O[j]? = some y->RP w M' y (vs.getD (o+j) undef)∧o+j<vs.length) ->
  (forIn F ((none,()):Option Bool×Unit) fun f __s =>
   if f.name ≠ "_" then do
    let __do_lift <- part f.type us.toArray f.offset
    let __do_lift_1 <- part f.type vs.toArray f.offset
    let __do_lift <- Op.equalIn (n+1) f.type __do_lift __do_lift_1
    if (!__do_lift)=true then pure (ForInStep.done (some false,())) else pure (ForInStep.yield (none,()))
   else (pure (ForInStep.yield (none,())):Sem _)).run P w=.ok (if b then (none,()) else (some false,())) w
 | [],o,xs,O,b,hn,U,he,hx,hy=>by
  cases xs with
  | nil =>
   cases O with
   | nil =>
    simp only[Kl,VP]at he;subst he;rfl
   | cons y O=>simp[Kl]at he
  | cons x xs=>simp[dq]at U
 | f::F,o,xs,O,b,hn,U,he,hx,hy=>by
  cases xs with
  | nil=>simp[dq]at U
  | cons x xs =>
   cases O with
   | nil=>simp[Kl]at he
   | cons y O =>
    simp only[VM,dq,Wh,beq_iff_eq]at U;obtain⟨⟨h1,h2⟩,h3⟩:=U;simp only[Kl]at he;split at he
    ·rename_i b1 b2 X ad;simp only[VP]at he;subst he;split at h2
     ·rename_i φ hφ;obtain⟨Y,Z⟩:=hx 0 x rfl;obtain⟨aa,ab⟩:=hy 0 y rfl;rw[Wf]at Y Z aa ab;obtain⟨hA,hS⟩:=Hi h2;have ae:(part f.type us.toArray f.offset).run P w=.ok (us.getD o undef) w:=by
       have hg:us.toArray[f.offset]? = some (us.getD o undef):=by rw[h1];simp[List.getD,VT Z]
       simp only[part,Wd,iO (hT _ _ hφ),hA,Result.andThen_ok,Wg,if_false,hg];rfl
      have ah:(part f.type vs.toArray f.offset).run P w=.ok (vs.getD o undef) w:=by
       have hg:vs.toArray[f.offset]? = some (vs.getD o undef):=by rw[h1];simp[List.getD,VT ab]
       simp only[part,Wd,iO (hT _ _ hφ),hA,Result.andThen_ok,Wg,if_false,hg];rfl
      have heq:=(QR hT hφ hS Y aa X n).2 (L9 X h2);have ih:=rI hT n F (o+1) xs O b2 (fun g hg=>hn g (by simp[hg])) h3 ad (fun j z hj=>by have:=hx (j+1) z hj;rwa [show o+(j+1)=o+1+j by omega]at this) (fun j z hj=>by have:=hy (j+1) z hj;rwa [show o+(j+1)=o+1+j by omega]at this);rw[List.forIn_cons];simp only[Wd];rw[if_pos (hn f (by simp))];simp only[Wd,ae,Result.andThen_ok,ah,heq];cases b1 with
      | false=>rfl
      | true =>
       simp only[W7,Wg,if_false,Sem.run_pure,Result.andThen_ok,W8];exact ih
     ·cases h2
    ·cases he
theorem run_equalIn_bool (n:Nat) {ty:Nat} (O:P.underlying ty=some .bool) (i j:Bool):(Op.equalIn (n+1) ty (.bool i) (.bool j)).run P w=.ok (i==j) w:=by
 simp[Op.equalIn,run_underlying O]
theorem run_equalIn_struct (n:Nat) {ty:Nat} {F:Array Field} (X:P.underlying ty=some (.struct F)) (Y:P.stoodInHeld ty=false) {us vs:List Value} {b:Bool}
  (O:(forIn F.toList ((none,()):Option Bool×Unit) fun f __s =>
   if f.name ≠ "_" then do
    let __do_lift <- part f.type us.toArray f.offset
    let __do_lift_1 <- part f.type vs.toArray f.offset
    let __do_lift <- Op.equalIn (n+1) f.type __do_lift __do_lift_1
    if (!__do_lift)=true then pure (ForInStep.done (some false,())) else pure (ForInStep.yield (none,()))
   else (pure (ForInStep.yield (none,())):Sem _)).run P w=.ok (if b then (none,()) else (some false,())) w) :
  (Op.equalIn (n+1+1) ty (.agg us.toArray) (.agg vs.toArray)).run P w=.ok b w:=by
 have U:(program:Sem Program).run P w=.ok P w:=rfl;rw[Op.equalIn];simp only[Wd,run_underlying X,Result.andThen_ok,U,Y,Wg,if_false];rw[<- Array.forIn_toList,O];cases b<;>rfl
theorem K7 (hT:fb P T) (hI:Inv N M L w0 blk V t h a w) {ty:Nat} {τ:Ty} (hτ:T ty=some τ) {x y:D} {u v:Value} {b:Bool} (hx:RT w (Own M h blk) h blk V x u) (hy:RT w (Own M h blk) h blk V y v) (O:MV T τ x y=some b) :
  (Op.equal ty u v).run P w=.ok b w∧(∀(p q:Operand) (op:BinOp),(eqGuard op ty p q u v).run P w=.ok () w)∧(∀op,op=.eql∨op=.neq->binOp op ty u v=(match op with | .eql=>(do pure (.bool (<- Op.equal ty u v)):Sem Value)|_=>do pure (.bool (!(<- Op.equal ty u v))))):=by
 obtain⟨d,hd,hc⟩:=under hT hτ;unfold MV at O;split at O
 ·rename_i i j;have hu:=pR hx;have hv:=pR hy;subst hu hv;split at O
  ·rename_i X;rw[X]at hc;have:=pY hc;subst this;simp only[VP]at O;subst O;refine⟨run_equalIn_bool 9999 hd i j,fun p q op=>by cases op<;>rfl,fun op Y =>?_⟩;rcases Y with rfl|rfl<;>rfl
  ·cases O
 ·rename_i nl tg n xs;have aa:RP w (Own M h blk) (.sl nl tg n xs) u:=hx;have ab:RP w (Own M h blk) (.sl true true 0 []) v:=hy;split at O
  ·rename_i el X;rw[X]at hc;have:=dJ hc;subst this;cases ab with
   | sl A c _ _ _ _ us h1 h2 h3 h4 h5 h6 h7 h8 =>
    obtain⟨rfl,rfl⟩:=(h3 rfl).1 rfl;cases aa with
    | sl B c' _ _ _ _ aj g1 g2 g3 g4 g5 g6 g7 g8 =>
     have hr:=run_equal_slice_nil (P:=P) w ty el B n c' hd;refine⟨?_,fun p q op=>by cases op<;>rfl,fun op Y =>?_⟩
     ·rw[hr];have hB:B.isNone=b:=by
       unfold QK at O;split at O
       ·rename_i ai;simp only[VP]at O;subst O;cases B with
        | none=>have:=(g4 rfl).1;omega
        | some _=>rfl
       ·split at O
        ·rename_i ae;simp only[VP]at O;subst O;cases ah:tg with
         | true=>rw[((g3 ae).1 ah).1];rfl
         | false =>
          cases B with
          | none=>exact absurd rfl ((g3 ae).2 ah)
          | some _=>rfl
        ·cases O
      rw[<- hB]
     ·rcases Y with rfl|rfl<;>rfl
  ·cases O
 ·rename_i xs ys;have aa:RP w (Own M h blk) (.agg xs) u:=hx;have ab:RP w (Own M h blk) (.agg ys) v:=hy;split at O
  ·rename_i fs X;rw[X]at hc;obtain⟨F,rfl,hF⟩:=eD hc;split at O
   ·rename_i U;simp only[Wh]at U;obtain⟨q1,q2,q3⟩:=(hT ty τ hτ).eqs U.1;rw[hd]at q3;simp only at q3;cases aa with
    | agg xs us h1 h2 h3 =>
     cases ab with
     | agg ys vs g1 g2 g3 =>
      have Z:∀f∈F.toList,f.name ≠ "_":=by
       intro f hf;have:=Array.all_eq_true_iff_forall_mem.1 q3 f (by simpa using hf);simpa using this
      have ad:=rI (P:=P) (w:=w) hT 9998 (M':=Own M h blk) (us:=us) (vs:=vs) F.toList 0 xs ys b Z (by rw[hF];exact U.2) O
       (fun j x hj=>by rw[Wt];exact⟨h2 j x hj,by have:=(V9.1 hj).1;omega⟩) (fun j x hj=>by rw[Wt];exact⟨g2 j x hj,by have:=(V9.1 hj).1;omega⟩)
      refine⟨?_,fun p q op =>?_,fun op Y =>?_⟩
      ·exact run_equalIn_struct 9998 hd q1 ad
      ·cases op<;>first|rfl|simp[eqGuard,program,Sem.run,q2]
      ·rcases Y with rfl|rfl<;>rfl
   ·cases O
  ·cases O
 ·cases O
theorem Ic (hT:fb P T) (U:Inv N M L w0 blk V t h a w) {x y:Operand} {op:BinOp} {ty aa:Nat} {d:D} (X:o.op=.binOp op ty x y aa) (O:te T ty op (ev t x) (ev t y)=some d):db P o a w (aJ N M L w0 V t h a e o.dst ⟨d,[]⟩):=by
 have hx:=U.ev x;have hy:=U.ev y;generalize ev t x=p at *;generalize ev t y=q at *;unfold te at O;split at O
 ·rename_i k i k' j;have hu:=iW hx;have hv:=iW hy;have hg:(eqGuard op ty x y (.int k i) (.int k' j)).run P w=.ok () w:=by cases op<;>rfl
  split at O
  ·rename_i hs;obtain⟨v,Y,Z⟩:=I1 (P:=P) (w:=w) (M:=Own M h blk) (ty:=ty) (k':=k') hs O;exact av (by simp[execOp,X,hu,hv,hg,Y]) (aJ.ct U (aS Z))
  ·rename_i hs;split at O
   ·rename_i hk;subst hk;obtain⟨v,Y,Z⟩:=Pg (P:=P) (w:=w) (M:=Own M h blk) (ty:=ty) (by simpa using hs) O;exact av (by simp[execOp,X,hu,hv,hg,Y]) (aJ.ct U (aS Z))
   ·cases O
 ·rename_i s s';have hu:=vZ hx;have hv:=vZ hy;have hg:(eqGuard op ty x y (.string s) (.string s')).run P w=.ok () w:=by cases op<;>rfl
  obtain⟨v,Y,Z⟩:=Pj (P:=P) (w:=w) (M:=Own M h blk) (ty:=ty) O;exact av (by simp[execOp,X,hu,hv,hg,Y]) (aJ.ct U (aS Z))
 ·split at O
  ·rename_i τ hτ;split at O
   ·split at O
    ·rename_i c hc;simp only[VP]at O;subst O;obtain⟨r1,r2,r3⟩:=K7 (P:=P) hT U hτ hx hy hc;have hb:=r3 .eql (.inl rfl);exact av (v := .bool c) (w':=w) (by simp[execOp,X,r2,hb,r1]) (aJ.ct U (aS (.bool _)))
    ·cases O
   ·split at O
    ·rename_i c hc;simp only[VP]at O;subst O;obtain⟨r1,r2,r3⟩:=K7 (P:=P) hT U hτ hx hy hc;have hb:=r3 .neq (.inr rfl);exact av (v := .bool !c) (w':=w) (by simp[execOp,X,r2,hb,r1]) (aJ.ct U (aS (.bool _)))
    ·cases O
   ·cases O
  ·cases O
end
theorem uH (n:Int):∀(ks:List Int) (l:List MapEntry) (us:Nat->Value) (i:Nat),l.length=ks.length->(∀j k,ks[j]? = some k->∃e:MapEntry,l[j]? = some e∧e.key=.int .i64 k∧e.val=us j) ->
  Instr.findNow (.int .i64) (.int .i64 n) l i=some (if ks.contains n then some (i+ks.idxOf n,us (ks.idxOf n)) else none)
 | [],[],_,_,_,_=>by simp[Instr.findNow]
 | k::ks,e::l,us,i,X,h=>by
  obtain⟨e',h1,h2,h3⟩:=h 0 k rfl;simp only[List.getElem?_cons_zero,VP]at h1;subst h1;have Y:=uH n ks l (fun j=>us (j+1)) (i+1) (by simpa using X) (fun j k Z=>by simpa using h (j+1) k (by simpa using Z))
  by_cases hk:k=n
  ·subst hk;simp[Instr.findNow,h2,Instr.sameNow,h3,WH]
  ·have O:(n==k)=false:=by simp[Ne.symm hk]
   have U:(k==n)=false:=by simp[hk]
   simp only[Instr.findNow,h2,Instr.sameNow,if_true,O,Y,WI,Bool.false_or,WH,U,cond_false];have e1:i+1+List.idxOf n ks=i+(List.idxOf n ks+1):=by omega
   rw[e1]
theorem Mk {ks:List bC} (h:ks.all (fun k=>zB k==false)=true):ks=(ks.map (·.1)).map fun n=>(n,none):=by
 induction ks with
 | nil=>rfl
 | cons k ks O =>
  simp only[List.all_cons,Wh]at h;obtain⟨a,x⟩:=k;cases x with
  | none=>simp only[VM];rw[<- O h.2]
  | some b=>simp[zB]at h
theorem rW (n:Int) (l:List Int):(l.map fun m=>((m,none):bC)).contains (n,none)=l.contains n∧(l.map fun m=>((m,none):bC)).idxOf (n,none)=l.idxOf n:=by
 induction l with
 | nil=>exact⟨rfl,rfl⟩
 | cons m l X =>
  have O:∀n m:Int,(((n,none):bC)==(m,none))=(n==m):=fun n m=>by
   by_cases h:n=m
   ·subst h;rw[beq_self_eq_true,beq_self_eq_true]
   ·rw[beq_eq_false_iff_ne.2 h,beq_eq_false_iff_ne.2 (fun e=>h (congrArg Prod.fst e))]
  have Y:=O n m;have U:=O m n;simp only[VM,WI,WH,Y,U,X.1,X.2,and_self]
theorem E9 (n:Int) (ks:List bC) (l:List MapEntry) (us:Nat->Value) (O:l.length=ks.length) (U:ks.all (fun k=>zB k==false)=true) (h:∀j k,ks[j]? = some k->∃e:MapEntry,l[j]? = some e∧e.key=iR k∧e.val=us j) :
  Instr.findNow (.int .i64) (.int .i64 n) l 0=some (if ks.contains (n,none) then some (ks.idxOf (n,none),us (ks.idxOf (n,none))) else none):=by
 have hk:=Mk U;generalize ks.map (·.1)=q at hk;subst hk;have:=uH n q l us 0 (by simpa using O) (fun j k X=>by
  obtain⟨e,h1,h2,h3⟩:=h j (k,none) (by simp[X]);exact⟨e,h1,h2,h3⟩)
 rw[(rW n q).1,(rW n q).2];simpa using this
theorem Gf (z:D) (n:bC):∀(ks:List bC) (vs:List D),vs.length=ks.length->n5 z ks vs n=if ks.contains n then vs.getD (ks.idxOf n) z else z
 | [],_,_=>by simp[n5]
 | k::ks,v::vs,X=>by
  have Y:=Gf z n ks vs (by simpa using X)
  by_cases hk:k=n
  ·subst hk;simp[n5,WH]
  ·have O:(n==k)=false:=by simp[Ne.symm hk]
   have U:(k==n)=false:=by simp[hk]
   simp[n5,hk,Y,WH,O,U,Ne.symm hk]
section
variable {P:Program} {T:Nat->Option Ty} {N:Nat} {M:Nat->Prop} {L:fV} {w0:World} {blk:Nat->Option (Nat×Nat)} {V:Nat->Nat->Prop} {t:Nat->D} {h:Nat->Option Row} {a:Act} {w:World} {e:Nat} {o:Oper}
theorem Mj {κ:Ty} (hk:o0 T κ=some true):∃a b α β,κ.ds=.struct [(a,0),(b,1)]∧T a=some α∧T b=some β∧α.ds=.int .i64∧β.ds=.int .i64∧κ.eqok=true:=by
 unfold o0 at hk;split at hk
 ·cases hk
 ·rename_i a b O;split at hk
  ·rename_i α β U X;split at hk
   ·rename_i h1 h2;split at hk
    ·rename_i Y;exact⟨a,b,α,β,O,U,X,h1,h2,Y⟩
    ·cases hk
   ·cases hk
  ·cases hk
 ·cases hk
theorem Mi {κ:Ty} (hk:o0 T κ=some false):κ.ds=.int .i64:=by
 unfold o0 at hk;split at hk
 ·assumption
 ·split at hk
  ·split at hk
   ·split at hk<;>cases hk
   ·cases hk
  ·cases hk
 ·cases hk
theorem uS (Z:fb P T) {ty:Nat} {τ φ:Ty} {b:Bool} (hτ:T ty=some τ) (hm:Gm T τ=some (b,φ)):∃X Y κ,P.underlying ty=some (.map X Y)∧T X=some κ∧o0 T κ=some b∧T Y=some φ:=by
 unfold Gm at hm;split at hm
 ·rename_i k el U;split at hm
  ·rename_i κ φ' hκ hφ;split at hm
   ·rename_i b' hk;simp only[VP,Prod.mk.injEq]at hm;obtain⟨rfl,rfl⟩:=hm;obtain⟨d,hd,O⟩:=under Z hτ;rw[U]at O;refine⟨k,el,κ,?_,hκ,hk,hφ⟩;cases d<;>simp[conv]at O;obtain⟨rfl,rfl⟩:=O;exact hd
   ·cases hm
  ·cases hm
 ·cases hm
theorem Inv.key (Z:Inv N M L w0 blk V t h a w) {i:Operand} {n:bC} (hk:QE (Am.ev t i)=some n):a.eval i=iR n:=by
 have U:=Z.ev i;generalize Am.ev t i=d at *;unfold QE at hk;split at hk
 ·simp only[VP]at hk;subst hk;exact iW U
 ·simp only[VP]at hk;subst hk;have O:RP w (Own M h blk) (.agg _) (a.eval i):=U;generalize a.eval i=u at O;cases O with
  | agg xs us h1 h2 h3 =>
   match us,h1 with
   | [u1,u2],_ =>
    have X:=h2 0 _ rfl;have Y:=h2 1 _ rfl;simp only[WK,List.getD_cons_succ]at X Y;cases X;cases Y;rfl
 ·cases hk
theorem rJ (hT:fb P T) {O:Nat} {κ:Ty} (hκ:T O=some κ) (hk:o0 T κ=some true):∃(F:Array Field) (f1 f2:Field) (α β:Ty),P.underlying O=some (.struct F)∧F.toList=[f1,f2]∧f1.offset=0∧f2.offset=1∧T f1.type=some α∧T f2.type=some β∧α.ds=.int .i64∧β.ds=.int .i64∧P.stoodInHeld O=false∧f1.name ≠ "_"∧f2.name ≠ "_":=by
 obtain⟨a,b,α,β,Y,hα,hβ,h1,h2,hq⟩:=Mj hk;obtain⟨d,hd,hc⟩:=under hT hκ;rw[Y]at hc;obtain⟨F,rfl,U⟩:=eD hc;obtain⟨q1,q2,Z⟩:=(hT O κ hκ).eqs hq;rw[hd]at Z;simp only at Z;have hlen:F.toList.length=2:=by simpa using congrArg List.length U
 match X:F.toList,hlen with
 | [f1,f2],_ =>
  rw[X]at U;simp only[VM,Wu,V4,Prod.mk.injEq,and_true]at U;obtain⟨⟨rfl,o1⟩,⟨rfl,o2⟩⟩:=U;have hn:∀f∈F.toList,f.name ≠ "_":=by
   intro f hf;have:=Array.all_eq_true_iff_forall_mem.1 Z f (by simpa using hf);simpa using this
  exact⟨F,f1,f2,α,β,hd,X,o1,o2,hα,hβ,h1,h2,q1,hn f1 (by rw[X];simp),hn f2 (by rw[X];simp)⟩
theorem My (U:fb P T) {X:Nat} {κ:Ty} (hκ:T X=some κ) (hk:o0 T κ=some true) (a b c d:Int):(Op.equal X (.agg #[.int .i64 a,.int .i64 b]) (.agg #[.int .i64 c,.int .i64 d])).run P w=.ok (a==c&&b==d) w:=by
 obtain⟨F,f1,f2,α,β,hd,Y,o1,o2,hα,hβ,h1,h2,q1,n1,n2⟩:=rJ U hκ hk;refine run_equalIn_struct (us:=[.int .i64 a,.int .i64 b]) (vs:=[.int .i64 c,.int .i64 d]) 9998 hd q1 ?_;refine rI (P:=P) (w:=w) U 9998 (M':=fun _=>False) F.toList 0 [.int .i64 a,.int .i64 b] [.int .i64 c,.int .i64 d] _ ?_ ?_ ?_ ?_ ?_
 ·rw[Y];intro f Z;simp only[VN,WL,or_false]at Z;rcases Z with rfl|rfl
  ·exact n1
  ·exact n2
 ·rw[Y];simp[dq,o1,o2,hα,hβ,h1,h2,kindOk]
 ·simp[Kl,HU]
 ·intro j x O
  match j,O with
  | 0,O=>simp only[List.getElem?_cons_zero,VP]at O;subst O;exact⟨.int _ _,by simp⟩
  | 1,O=>simp only[List.getElem?_cons_succ,List.getElem?_cons_zero,VP]at O;subst O;exact⟨.int _ _,by simp⟩
  | j+2,O=>simp at O
 ·intro j x O
  match j,O with
  | 0,O=>simp only[List.getElem?_cons_zero,VP]at O;subst O;exact⟨.int _ _,by simp⟩
  | 1,O=>simp only[List.getElem?_cons_succ,List.getElem?_cons_zero,VP]at O;subst O;exact⟨.int _ _,by simp⟩
  | j+2,O=>simp at O
theorem tV {k:bC} (h:(zB k==true)=true):∃a b,k=(a,some b):=by
 obtain⟨a,x⟩:=k;cases x with
 | none=>simp[zB]at h
 | some b=>exact⟨a,b,rfl⟩
theorem pC (Y:fb P T) {Z:Nat} {κ:Ty} (hκ:T Z=some κ) (hk:o0 T κ=some true) {n:bC} (hn:(zB n==true)=true):∀(ks:List bC) (l:List MapEntry) (us:Nat->Value) (i:Nat),l.length=ks.length->ks.all (fun k=>zB k==true)=true->(∀j k,ks[j]? = some k->∃e:MapEntry,l[j]? = some e∧e.key=iR k∧e.val=us j) ->
  (Instr.findAsking Z (iR n) l i).run P w=.ok (if ks.contains n then some (i+ks.idxOf n,us (ks.idxOf n)) else none) w
 | [],[],_,_,_,_,_=>by simp[Instr.findAsking]
 | k::ks,e::l,us,i,hl,U,h=>by
  simp only[List.all_cons,Wh]at U;obtain⟨e',h1,h2,h3⟩:=h 0 k rfl;simp only[List.getElem?_cons_zero,VP]at h1;subst h1;have ih:=pC Y hκ hk hn ks l (fun j=>us (j+1)) (i+1) (by simpa using hl) U.2 (fun j k hj=>by simpa using h (j+1) k (by simpa using hj));obtain⟨a,b,rfl⟩:=tV hn;obtain⟨c,d,rfl⟩:=tV U.1;have heq:=My (P:=P) (w:=w) Y hκ hk a b c d;have X:(((a,some b):bC)==(c,some d))=(a==c&&b==d):=by
   rw[Bool.eq_iff_iff,beq_iff_eq,Wh,beq_iff_eq,beq_iff_eq];constructor
   ·intro h;injection h with h1 h2;injection h2 with h2;exact⟨h1,h2⟩
   ·rintro⟨rfl,rfl⟩;rfl
  have O:(((c,some d):bC)==(a,some b))=(a==c&&b==d):=by
   rw[Bool.eq_iff_iff,beq_iff_eq,Wh,beq_iff_eq,beq_iff_eq];constructor
   ·intro h;injection h with h1 h2;injection h2 with h2;exact⟨h1.symm,h2.symm⟩
   ·rintro⟨rfl,rfl⟩;rfl
  simp only[Instr.findAsking,iR,Wd,h2,heq,Result.andThen_ok,WI,WH,X,O];cases hq:(a==c&&b==d) with
  | true=>simp[h3]
  | false =>
   simp only[Wg,if_false,Bool.false_or,cond_false];simp only[iR]at ih;rw[ih];have e1:i+1+List.idxOf ((a,some b):bC) ks=i+(List.idxOf ((a,some b):bC) ks+1):=by omega
   rw[e1]
theorem Du (X:fb P T) {kt:Nat} {κ:Ty} (hκ:T kt=some κ) (hk:o0 T κ=some true) (a b:Int) (em:Bool):(Instr.checkKey em 10000 kt (.agg #[.int .i64 a,.int .i64 b])).run P w=.ok () w:=by
 obtain⟨F,f1,f2,α,β,hd,hL,o1,o2,hα,hβ,h1,h2,q1,n1,n2⟩:=rJ X hκ hk;obtain⟨d1,Y,O⟩:=under X hα;obtain⟨d2,Z,U⟩:=under X hβ;rw[h1]at O;rw[h2]at U;have e1:d1=.int .i64:=by cases d1<;>simp[conv]at O;subst O;rfl
 have e2:d2=.int .i64:=by cases d2<;>simp[conv]at U;subst U;rfl
 subst e1 e2;have p1:(part f1.type #[Value.int .i64 a,.int .i64 b] f1.offset).run P w=.ok (.int .i64 a) w:=by
  simp[part,Wd,iO (X _ _ hα),h1,Ds.ko,o1,Result.andThen]
 have p2:(part f2.type #[Value.int .i64 a,.int .i64 b] f2.offset).run P w=.ok (.int .i64 b) w:=by
  simp[part,Wd,iO (X _ _ hβ),h2,Ds.ko,o2,Result.andThen]
 have c1:=MapKept.run_checkKey (w:=w) Y (show MapKept.IsKey (.int .i64) (.int .i64 a) from rfl) em 9998;have c2:=MapKept.run_checkKey (w:=w) Z (show MapKept.IsKey (.int .i64) (.int .i64 b) from rfl) em 9998;rw[Instr.checkKey];simp only[Wd,run_underlying hd,Result.andThen_ok];rw[<- Array.forIn_toList,hL];simp[List.forIn_cons,Wd,n1,n2,p1,p2,c1,c2,Result.andThen]
theorem Hd (Y:fb P T) {kt:Nat} {κ:Ty} {b:Bool} (Z:T kt=some κ) (hk:o0 T κ=some b) {n:bC} {ks:List bC} (U:jd b n ks=true) {l:List MapEntry} {us:Nat->Value} (hl:l.length=ks.length) (h:∀j k,ks[j]? = some k->∃e:MapEntry,l[j]? = some e∧e.key=iR k∧e.val=us j) :
  (∀em,(Instr.checkKey em 10000 kt (iR n)).run P w=.ok () w)∧(Instr.findKey kt (iR n) l).run P w=.ok (if ks.contains n then some (ks.idxOf n,us (ks.idxOf n)) else none) w∧(Instr.keyThatStays (iR n) (iR n)).run P w=.ok (iR n) w:=by
 simp only[jd,Wh]at U;cases b with
 | false =>
  obtain⟨n,x⟩:=n;cases x with
  | some y=>simp[zB]at U
  | none =>
   obtain⟨d,hd,hc⟩:=under Y Z;rw[Mi hk]at hc;have aa:d=.int .i64:=by cases d<;>simp[conv]at hc;subst hc;rfl
   subst aa;have O:MapKept.IsKey (.int .i64) (.int .i64 n):=rfl;exact⟨fun em=>MapKept.run_checkKey (w:=w) hd O em 9999,MapKept.run_findKey (w:=w) hd (E9 n ks l us hl U.2 h),MapKept.run_keyThatStays (P:=P) (w:=w) O⟩
 | true =>
  obtain⟨F,f1,f2,α,β,hd,_⟩:=rJ Y Z hk;have X:=pC (P:=P) (w:=w) Y Z hk U.1 ks l us 0 hl U.2 h;obtain⟨x,y,rfl⟩:=tV U.1;refine⟨fun em=>Du Y Z hk x y em,?_,?_⟩
  ·rw[Wt]at X;unfold Instr.findKey;simp only[Wd,run_underlying hd,Result.andThen_ok];cases l with
   | nil =>
    cases ks with
    | nil=>simp[Instr.findNow]
    | cons _ _=>simp at hl
   | cons e l =>
    have:Instr.findNow (.struct F) (iR (x,some y)) (e::l) 0=none:=by simp[Instr.findNow,Instr.sameNow]
    rw[this];exact X
  ·simp[Instr.keyThatStays,iR,Instr.sameBits]
theorem zeroV (hT:fb P T) {ty:Nat} {φ:Ty} {z:D} (hφ:T ty=some φ) (O:gP φ (φ.zero.map jR)=some z) (hp:(φ.zero.map jR).all aF=true) (w:World) (M:Nat->Prop):∃U,(zeroValue ty).run P w=.ok U w∧RP w M z U:=by
 have hτ:=hT ty φ hφ;obtain⟨d,i,U,h1,h2,h3,h4,h5,h6,h7⟩:=hτ.get;have Z:=hτ.agg;rw[h3]at Z;simp only[Option.map_some,h6,VP]at Z;refine⟨U,by simp[zeroValue,typeInfo,h3,h6],?_⟩;have hc:=fun j x X=>lJ φ.zero hp (w:=w) (M:=M) j x X;unfold gP at O;rw[<- Z]at O;cases U with
 | agg cs =>
  simp only[IG,if_true,VP]at O;subst O;simp only[Value.cells]at h7;subst h7;refine .agg _ φ.zero (by simp) (fun j x X =>?_) (fun x hx =>?_)
  ·have:=(hc j x X).2;simpa [VL,Wj] using this
  ·obtain⟨j,X⟩:=V2 hx;exact (hc j x X).1
 | _ =>
  simp only[IG,Wg,if_false]at O;split at O
  ·rename_i d hd;simp only[VP]at O;subst O;have Y:=(hc 0 d (by rw[hd];rfl)).2;rw[<- h7]at Y;simpa [Value.cells] using Y
  ·cases O
theorem Inv.KN (hI:Inv N M L w0 blk V t h a w) {m:D} {u:Value} {ks:List bC} {vs:List D} (hm:mapOf h m=some (ks,vs)) (Z:RT w (Own M h blk) h blk V m u) :
  vs.length=ks.length∧∃(ents:Array MapEntry) (us:Nat->Value),ents.size=ks.length∧((u=.map none∧ents = #[])∨∃b clock,u=.map (some b)∧w.heap[b]? = some (.map ents clock))∧(∀j k,ks[j]? = some k->∃e:MapEntry,ents[j]? = some e∧e.key=iR k∧e.val=us j)∧∀j x,vs[j]? = some x->RP w (Own M h blk) x (us j):=by
 cases m with
 | mp x v =>
  simp only[mapOf]at hm;obtain⟨g,r,h1,h2,h3,h4,h5,rfl,h6,ents,clock,h7,h8,_,us,h9,O⟩:=hI.KM hm Z;exact⟨h6,ents,us,h8,.inr ⟨g.1,clock,rfl,h7⟩,h9,O⟩
 | mpc U X =>
  simp only[mapOf,VP,Prod.mk.injEq]at hm;obtain⟨rfl,rfl⟩:=hm;have Y:RP w (Own M h blk) (.mpc U X) u:=Z;cases Y with
  | mpc _ _ mb us h1 h2 h3 h4 =>
   refine⟨h1,?_⟩;cases mb with
   | none =>
    have:=h2 rfl;subst this;exact⟨#[],us,rfl,.inl ⟨rfl,rfl⟩,fun j k hj=>by simp at hj,h4⟩
   | some b =>
    obtain⟨k1,k2,ents,clock,k3,k4,k5⟩:=h3 b rfl;exact⟨ents,us,k4,.inr ⟨b,clock,rfl,k3⟩,k5,h4⟩
 | _=>simp[mapOf]at hm
theorem CN (hT:fb P T) (hI:Inv N M L w0 blk V t h a w) {ty d:Nat} {τ:Ty} {E:aR} (ho:o.op=.makeMap ty none) (hd:o.dst=some d) (hV:fY N V d e) (hτ:T ty=some τ) (O:k9 T ty τ e d=some E):db P o a w (aJ N M L w0 V t h a e o.dst E):=by
 unfold k9 at O;split at O
 ·split at O
  ·cases O
  rename_i X;simp only[VP]at O;subst O;have U:=(Below.refl w.heap.size w).alloc (VG _) (.map #[] 0);have Y:=hI.CA (w':=w.alloc (.map #[] 0)) (h1:=h) (old:=none) (d:=d) (e:=e) (r0:=⟨e,ty,[.mpc [] []],false,true,true⟩) (go:=some (w.heap.size,0)) U.os U.tape U.output U.size (fun k hk _=>Below.heap_alloc w _ k hk) (fun y hy=>by cases hy) rfl hV
   ⟨.inl (VG _),by
    refine .inl ?_;exact⟨[],[],rfl,rfl,fun _=>⟨#[],0,heap_alloc_new w _,rfl,MapKept.stamped_empty 0,fun _=>undef,fun j k Z=>by simp at Z,fun j x Z=>by simp at Z⟩,fun hq=>absurd hq X⟩⟩ rfl rfl (fun _ _ _ j x s n h=>by cases j<;>simp at h)
  refine av (v := .map (some w.heap.size)) (w':=w.alloc (.map #[] 0)) ?_ ⟨bj blk d (some (w.heap.size,0)),?_,?_⟩
  ·simp[execOp,ho,Instr.makeMap,Result.andThen]
  ·refine Y.weaken fun x v hx =>?_;rcases hx with hx|⟨rfl,rfl⟩
   ·exact .inl hx
   ·exact .inr ⟨hd,rfl⟩
  ·exact⟨.inr ⟨hd,rfl⟩,fun _ _ _=>⟨(w.heap.size,0),aj _ _ _,rfl⟩⟩
 ·cases O
theorem EO (hT:fb P T) (hI:Inv N M L w0 blk V t h a w) {ty:Nat} {m i:Operand} {ok:Bool} {τ:Ty} {E:aR} (ho:o.op=.lookup ty m i ok) (hτ:T ty=some τ) (X:fJ T τ h (ev t m) (ev t i) ok=some E):db P o a w (aJ N M L w0 V t h a e o.dst E):=by
 unfold fJ at X;split at X
 ·rename_i b φ ks vs n aq ar hi;split at X
  ·rename_i z hz;split at X
   ·rename_i Z;obtain⟨au,aw⟩:=Z;simp only[VP]at X;subst X;obtain⟨kt,et,κ,aa,hκ,ax,hφ⟩:=uS hT hτ aq;obtain⟨hlen,ents,us,ah,ai,hk,hv⟩:=hI.KN ar (hI.ev m);have ab:a.eval i=iR n:=hI.key hi;obtain⟨zv,aj,ay⟩:=zeroV hT hφ hz aw w (Own M h blk);obtain⟨ak,O,_⟩:=Hd (P:=P) (w:=w) hT hκ ax au (l:=ents.toList) (us:=us) (by simpa using ah) (fun j k U=>by simpa using hk j k U);have ad:=ak ents.isEmpty;have hl:=Gf (dT z) n ks vs hlen;have al:(execOp a.eval o).run P w=.ok (.value (if ok then .tuple #[if ks.contains n then us (ks.idxOf n) else zv,.bool (ks.contains n)] else if ks.contains n then us (ks.idxOf n) else zv)) w:=by
     rcases ai with⟨az,rfl⟩|⟨b,clock,an,ae⟩
     ·have aA:ks=[]:=by simpa using ah.symm
      subst aA;simp only[List.contains_nil,Wg,if_false]at O ⊢;cases ok<;>simp[execOp,ho,Instr.lookup,run_underlying aa,az,ab,ad,O,aj,Result.andThen]<;>simp_all
     ·have ao:=MapKept.run_getObj_map (P:=P) ae;cases hc:ks.contains n with
      | true =>
       rw[hc]at O;simp only[if_true]at O;cases ok<;>simp[execOp,ho,Instr.lookup,run_underlying aa,an,ab,ao,ad,O,Result.andThen]
      | false =>
       rw[hc]at O;simp only[Wg,if_false]at O;cases ok<;>simp[execOp,ho,Instr.lookup,run_underlying aa,an,ab,ao,ad,O,aj,Result.andThen]
    have Y:RP w (Own M h blk) (n5 (dT z) ks vs n) (if ks.contains n then us (ks.idxOf n) else zv):=by
     rw[hl];split
     ·rename_i hc;have aB:ks.idxOf n<vs.length:=by rw[hlen];exact List.idxOf_lt_length_of_mem (by simpa using hc)
      refine hv _ _ ?_;simp[Wj,aB]
     ·exact ay.dT
    refine av al (aJ.ct hI ?_);cases ok with
    | false=>exact aS Y
    | true =>
     refine aS (.tup _ [_,_] rfl fun j x U =>?_)
     match j,U with
     | 0,U=>simp only[List.getElem?_cons_zero,VP]at U;subst U;exact Y
     | 1,U=>simp only[List.getElem?_cons_succ,List.getElem?_cons_zero,VP]at U;subst U;exact .bool _
     | j+2,U=>simp at U
   ·cases X
  ·cases X
 ·cases X
theorem Inv.rK (Z:Inv N M L w0 blk V t h a w) {d U:D} {fr:List Nat} {u:Value} {M':Nat->Prop} (O:rK h d=some (U,fr)) (Y:ki M h blk fr M') (X:RT w (Own M h blk) h blk V d u):RP w M' U u:=by
 have hk:∀b,b<w.heap.size->¬Own M h blk b->b<w.heap.size∧¬M' b∧w.heap[b]? = w.heap[b]?:=fun b h1 h2=>⟨h1,fun hb=>h2 (Y.le b hb),rfl⟩;have one:∀d,Am.rK h d=(match Am.b9 h d with|some (U,fr)=>some (canon U,fr)|none=>none)->Am.rK h d=some (U,fr)->RT w (Own M h blk) h blk V d u->RP w M' U u:=by
  intro d he O X;rw[he]at O;split at O
  ·rename_i d1 aa h1;simp only[VP,Prod.mk.injEq]at O;obtain⟨rfl,rfl⟩:=O;exact (Z.b9 h1 Y X).1.canon
  ·cases O
 cases d with
 | agg xs =>
  simp only[Am.rK,VP,Prod.mk.injEq]at O;obtain⟨rfl,rfl⟩:=O;exact (RP.keep hk (show RP w (Own M h blk) (.agg xs) u from X)).dT
 | _=>exact one _ rfl O X
theorem Pd (ks:List bC) (vs:List D) (n:bC) (d:D) (h:vs.length=ks.length):(Dp ks vs n d).length=(vB ks n).length:=by
 unfold Dp vB;split<;>simp[h]
theorem oK (hT:fb P T) (hI:Inv N M L w0 blk V t h a w) {ty:Nat} {m i x:Operand} {τ:Ty} {E:aR} (ho:o.op=.mapUpdate ty m i x∨o.op=.insert ty m i x) (hτ:T ty=some τ) (hE:cj T τ h (ev t m) (ev t i) (ev t x)=some E):db P o a w (aJ N M L w0 V t h a e o.dst E):=by
 have hm:=hI.ev m;unfold cj at hE;split at hE
 ·rename_i b φ y v n d fr aI aK hi al;rw[aK]at hm;split at hE
  ·rename_i r hr;split at hE
   ·rename_i ks vs an;split at hE
    ·rename_i ah;obtain⟨aL,hfz,aM⟩:=ah;simp only[VP]at hE;subst hE;obtain⟨kt,et,κ,ao,hκ,aN,hφ⟩:=uS hT hτ aI;have aq:a.eval i=iR n:=hI.key hi;have ar:=hI.freeze fr;have au:=hI.rK al (hI.dB fr) (hI.ev x);obtain⟨g,r',h1,h2,h3,h4,h5,av,_⟩:=hI.KM an hm;rw[hr]at h1;simp only[VP]at h1;subst h1;have ai:ay h (fB h fr) y=some r:=by rw[tq aM];exact hr
     have ab:=ar.rowIs ai h5;unfold cr at ab;rw[h3]at ab;rcases ab with ab|⟨ab,_⟩;rotate_left
     ·rw[h4]at ab;have:=ab _ (V3.2 rfl);cases this
     obtain⟨aV,aW,i1,hlen,aO,_⟩:=ab;have aw:r.ty<900000:=by
      obtain⟨r3,z1,_,_,_,z5⟩:=xR an;rw[hr]at z1;cases z1;exact z5
     obtain⟨ents,clock,Y,aj,ax,us,hk,hv⟩:=aO aw;rw[h4]at i1;simp only[V4,D.mpc.injEq,and_true]at i1;obtain⟨rfl,rfl⟩:=i1;obtain⟨az,ad,aP⟩:=Hd (P:=P) (w:=w) hT hκ aN aL (l:=ents.toList) (us:=us) (by simpa using aj) (fun j k hj=>by simpa using hk j k hj);have aA:=az false;have aB:=MapKept.run_getObj_map (P:=P) Y;have aX:g.1<w.heap.size:=(VK.1 Y).1;have key:∃(O:Array MapEntry) (U:Nat) (ae:Nat->Value),(execOp a.eval o).run P w=.ok .skip { w with heap:=w.heap.setIfInBounds g.1 (.map O U) }∧O.size=(vB ks n).length∧MapKept.Stamped O U∧(∀j k,(vB ks n)[j]? = some k->∃e:MapEntry,O[j]? = some e∧e.key=iR k∧e.val=ae j)∧∀j z,(Dp ks vs n d)[j]? = some z->RP w (Own M (ay h (fB h fr)) blk) z (ae j):=by
      cases hc:ks.contains n with
      | true =>
       rw[hc]at ad;simp only[if_true]at ad;have hj:ks.idxOf n<ks.length:=List.idxOf_lt_length_of_mem (by simpa using hc);have aC:ks[ks.idxOf n]? = some n:=by rw[VT hj];simp
       obtain⟨e0,q1,q2,q3⟩:=hk _ _ aC;have aQ:(((ents[ks.idxOf n]?).map (·.key)).getD (iR n))=iR n:=by rw[q1];exact q2
       refine⟨ents.modify (ks.idxOf n) (fun e=>{ e with key:=iR n,val:=a.eval x }),clock,fun j=>if j=ks.idxOf n then a.eval x else us j,?_,?_,?_,fun j k Z =>?_,fun j z X =>?_⟩
       ·have hset:=fun ob=>MapKept.run_setObj_map (P:=P) ob Y;rcases ho with ho|ho<;>simp[execOp,ho,Instr.mapUpdate,run_underlying ao,av,aq,aB,aA,ad,aQ,aP,hset,Result.andThen]
       ·simp only[Array.size_modify,vB,hc,if_true];exact aj
       ·exact MapKept.stamped_modify ax _ _ (fun e _=>rfl) (fun e _ he=>by rw[q1]at he;cases he;exact q2.symm)
       ·simp only[vB,hc,if_true]at Z;obtain⟨e1,p1,p2,p3⟩:=hk j k Z
        by_cases aa:ks.idxOf n=j
        ·subst aa;rw[aC]at Z;simp only[VP]at Z;subst Z;exact⟨{ e1 with key:=iR n,val:=a.eval x },by simp[VQ,p1],rfl,by simp⟩
        ·exact⟨e1,by simp[VQ,aa,p1],p2,by rw[p3];exact (if_neg (Ne.symm aa)).symm⟩
       ·simp only[Dp,hc,if_true]at X;rw[List.getElem?_set]at X
        by_cases aa:ks.idxOf n=j
        ·subst aa;simp only[if_true]at X;split at X
         ·simp only[VP]at X;subst X;simp only[if_true];exact au
         ·cases X
        ·rw[if_neg aa]at X;simp only[if_neg (Ne.symm aa)];exact hv j z X
      | false =>
       rw[hc]at ad;simp only[Wg,if_false]at ad;refine⟨ents.push { key:=iR n,val:=a.eval x,born:=clock },clock+1,fun j=>if j<ks.length then us j else a.eval x,?_,?_,?_,fun j k Z =>?_,fun j z X =>?_⟩
       ·have hset:=fun ob=>MapKept.run_setObj_map (P:=P) ob Y;rcases ho with ho|ho<;>simp[execOp,ho,Instr.mapUpdate,run_underlying ao,av,aq,aB,aA,ad,hset,Result.andThen]
       ·simp only[Array.size_push,vB,hc,Wg,if_false,WN,List.length_cons,List.length_nil];omega
       ·refine MapKept.stamped_push ax fun x hx he =>?_;obtain⟨j,hj⟩:=V2 hx;have aS:j<ks.length:=by have:=(V9.1 hj).1;simp at this;omega
        obtain⟨e1,p1,p2,_⟩:=hk j _ (VT aS);rw[Ww,p1]at hj;cases hj;have:ks[j]=n:=OH (p2.symm.trans he);rw[<- this]at hc;simp[VS]at hc
       ·simp only[vB,hc,Wg,if_false]at Z
        by_cases aa:j<ks.length
        ·rw[Wk aa]at Z;obtain⟨e1,p1,p2,p3⟩:=hk j k Z;exact⟨e1,by rw[Array.getElem?_push_lt (by omega)];rw[<- p1];exact (WQ (by omega)).symm,p2,by rw[p3];exact (if_pos aa).symm⟩
        ·rw[Wl (by omega)]at Z;have ak:j=ks.length:=by
          have:=(V9.1 Z).1;simp at this;omega
         subst ak;simp only[WR,List.getElem?_cons_zero,VP]at Z;subst Z;exact⟨_,by rw[<- aj];exact Array.getElem?_push_size,rfl,by simp⟩
       ·simp only[Dp,hc,Wg,if_false]at X
        by_cases aa:j<ks.length
        ·rw[Wk (by omega)]at X;simp only[if_pos aa];exact hv j z X
        ·rw[Wl (by omega)]at X;have ak:j=vs.length:=by
          have:=(V9.1 X).1;simp at this;omega
         subst ak;simp only[WR,List.getElem?_cons_zero,VP]at X;subst X;simp only[if_neg aa];exact au
     obtain⟨O,U,ae,aD,aE,aF,aT,aU⟩:=key;have hset:=MapKept.heap_set (o' := .map O U) Y;have aG:(w.heap.setIfInBounds g.1 (.map O U)).size=w.heap.size:=by simp
     have aH:=ar.gY (hph:=fun _ _ _ j x s n h=>by cases j<;>simp at h) (r0:=⟨r.v,r.ty,[.mpc (vB ks n) (Dp ks vs n d)],false,true,true⟩) (w':={ w with heap:=w.heap.setIfInBounds g.1 (.map O U) }) ai hfz rfl rfl rfl rfl (by show w.heap.size<=(w.heap.setIfInBounds g.1 _).size;rw[aG];exact VG _)
      (fun b _ hb=>hset.2 b (hb g h5)) (by
       rw[h5];refine⟨by simp[World.shape?,hset.1,Y],?_⟩;refine .inl ?_;refine⟨_,_,rfl,Pd ks vs n d hlen,fun _=>⟨O,U,hset.1,aE,aF,ae,aT,fun j z X=>(aU j z X).keep fun b q1 q2=>⟨by show b<(w.heap.setIfInBounds g.1 _).size;rw[aG];exact q1,q2,hset.2 b (fun e=>q2 (.inr ⟨y,r,g,ai,hfz,h5,e.symm⟩))⟩⟩,fun hq=>absurd hq (Nat.not_le.2 aw)⟩) (fun hh=>by cases hh)
     refine .inr (.inl ⟨_,aD,blk,?_,trivial⟩);rw[ef];exact aH.weaken fun _ _ h =>.inl h
    ·cases hE
   ·cases hE
  ·cases hE
 ·cases hE
end
section
variable {P:Program} {T:Nat->Option Ty} {N:Nat} {M:Nat->Prop} {L:fV} {w0:World} {blk:Nat->Option (Nat×Nat)} {V:Nat->Nat->Prop} {t:Nat->D} {h:Nat->Option Row} {a:Act} {w:World} {e:Nat} {o:Oper} {Γ:Env}
theorem iI {α:Type} {c:Array α} {l:List α} (h:c.toList=l):c=l.toArray:=by rw[<- h]
theorem KO {β:Type} {f:Operand->β} {l:List Operand} {p q:β} (h:l.map f=[p,q]):∃s x,l=[s,x]∧f s=p∧f x=q:=by
 match l,h with
 | [s,x],h=>simp only[VM,Wu,V4,and_true]at h;exact⟨s,x,rfl,h.1,h.2⟩
theorem QG {β:Type} {f:Operand->β} {l:List Operand} {p:β} (h:l.map f=[p]):∃s,l=[s]∧f s=p:=by
 match l,h with
 | [s],h=>simp only[VM,Wu,V4,and_true]at h;exact⟨s,rfl,h⟩
theorem map_cons {β:Type} {f:Operand->β} {l:List Operand} {p:β} {r:List β} (h:l.map f=p::r):∃s l',l=s::l'∧f s=p∧l'.map f=r:=by
 match l,h with
 | s::l',h=>simp only[VM,V4]at h;exact⟨s,l',rfl,h.1,h.2⟩
theorem CI (hT:fb P T) (Z:Inv N M L w0 blk V t h a w) {c:Call} {b:Builtin} {E:aR} (ho:o.op=.call c) (hc:c.callee=.builtin b) (hV:∀d,o.dst=some d->fY N V d e)
  (O:bu T h e o.dst b c.argTypes.toList (c.args.toList.map (ev t))=some E):db P o a w (aJ N M L w0 V t h a e o.dst E):=by
 unfold bu at O;split at O
 ·rename_i ty az x ae U;obtain⟨s,hs,rfl⟩:=QG U;have ai:=iI hs;have ak:=iI ae;split at O
  ·rename_i an;split at O
   ·rename_i τ n hτ hn;have hp:=Z.ev s;obtain⟨d,hd,X⟩:=under hT hτ;obtain⟨l1,l2⟩:=RT.UO Z hn an hp;have aa:∀v,(Builtin.len_ c.argTypes o.type #[a.eval s]).run P w=.ok v w->(execOp a.eval o).run P w=.ok (.value v) w:=by
     intro v hr;simp[execOp,ho,resolve,hc,ai,invoke,builtin,hr]
    have ad:c.argTypes[0]? = some ty:=by rw[ak];rfl
    split at O
    ·rename_i z ab hz;rw[hz]at l1;obtain⟨hu,ah⟩:=l1 _ rfl;rw[ab]at X;have:=mE X;subst this;simp only[VP]at O;subst O;refine av (aa (.int .i64 n) ?_) (aJ.ct Z (aS (.int _ _)));simp[Builtin.len_,ad,run_underlying hd,hu,goInt,ah]
    ·rename_i el z1 z2 z3 z4 ab hz;obtain⟨A,k,hu⟩:=l2 (by rw[hz];intro s h;cases h);rw[ab]at X;have:=dJ X;subst this;simp only[VP]at O;subst O;refine av (aa (.int .i64 n) ?_) (aJ.ct Z (aS (.int _ _)));simp[Builtin.len_,ad,run_underlying hd,hu,goInt]
    ·rename_i el z1 z2 z3 z4 z5 ab hz;obtain⟨A,k,hu⟩:=l2 (by rw[hz];intro s h;cases h);rw[ab]at X;have:=dJ X;subst this;simp only[VP]at O;subst O;refine av (aa (.int .i64 n) ?_) (aJ.ct Z (aS (.int _ _)));simp[Builtin.len_,ad,run_underlying hd,hu,goInt]
    ·cases O
   ·rename_i τ hτ hn;split at O
    ·rename_i k el ks aA ab ao;obtain⟨d,hd,X⟩:=under hT hτ;rw[ab]at X;have aq:d=.map k el:=by
      cases d<;>simp[conv]at X;obtain⟨rfl,rfl⟩:=X;rfl
     subst aq;simp only[VP]at O;subst O;obtain⟨hlen,ents,us,ah,al,hk,hv⟩:=Z.KN ao (Z.ev s);have ad:c.argTypes[0]? = some ty:=by rw[ak];rfl
     refine av (v := .int .i64 (ks.length:Nat)) (w':=w) ?_ (aJ.ct Z (aS (.int _ _)));rcases al with⟨ar,rfl⟩|⟨b,clock,au,aj⟩
     ·have aw:ks.length=0:=by simpa using ah.symm
      simp[execOp,ho,resolve,hc,ai,invoke,builtin,Builtin.len_,ad,run_underlying hd,ar,goInt,aw]
     ·have ax:=MapKept.run_getObj_map (P:=P) aj;simp[execOp,ho,resolve,hc,ai,invoke,builtin,Builtin.len_,ad,run_underlying hd,au,ax,goInt,ah,Result.andThen]
    ·cases O
   ·cases O
  ·cases O
 ·rename_i ty aB p q ae U;obtain⟨s,x,hs,rfl,rfl⟩:=KO U;split at O
  ·rename_i ay;subst ay;split at O
   ·rename_i τ d hτ hd;exact EM hT Z ho hc (iI hs) (iI ae) hd (hV d hd) hτ O
   ·cases O
  ·cases O
 ·rename_i k x r U;obtain⟨s,l,hs,h1,h2⟩:=map_cons U;split at O
  ·rename_i z hz;simp only[VP]at O;subst O;have hu:a.eval s=.int k x:=by have:=Z.ev s;rw[h1]at this;exact iW this
   have hr:=He (P:=P) (w:=w) (M:=M) (blk:=blk) (V:=V) (h:=h) k r (l.map a.eval) x z hz (by rw[<- h2];simp) (fun j d hj=>by
    rw[<- h2,VC]at hj;cases hx:l[j]? with
    | none=>simp[hx]at hj
    | some y =>
     simp only[hx,Option.map_some,VP]at hj;subst hj;have:(l.map a.eval).getD j undef=a.eval y:=by simp[List.getD,hx]
     rw[this];exact Z.ev y)
   refine av (v := .int k z) (w':=w) ?_ (aJ.ct Z (aS (.int _ _)));have Y:c.args.map a.eval=(Value.int k x::l.map a.eval).toArray:=by rw[iI hs];simp[hu]
   simp[execOp,ho,resolve,hc,Y,invoke,builtin,Builtin.max_,hr]
  ·cases O
 ·rename_i k x r U;obtain⟨s,l,hs,h1,h2⟩:=map_cons U;split at O
  ·rename_i z hz;simp only[VP]at O;subst O;have hu:a.eval s=.int k x:=by have:=Z.ev s;rw[h1]at this;exact iW this
   have hr:=Hf (P:=P) (w:=w) (M:=M) (blk:=blk) (V:=V) (h:=h) k r (l.map a.eval) x z hz (by rw[<- h2];simp) (fun j d hj=>by
    rw[<- h2,VC]at hj;cases hx:l[j]? with
    | none=>simp[hx]at hj
    | some y =>
     simp only[hx,Option.map_some,VP]at hj;subst hj;have:(l.map a.eval).getD j undef=a.eval y:=by simp[List.getD,hx]
     rw[this];exact Z.ev y)
   refine av (v := .int k z) (w':=w) ?_ (aJ.ct Z (aS (.int _ _)));have Y:c.args.map a.eval=(Value.int k x::l.map a.eval).toArray:=by rw[iI hs];simp[hu]
   simp[execOp,ho,resolve,hc,Y,invoke,builtin,Builtin.min_,hr]
  ·cases O
 ·cases O
theorem M6 {h:Nat->Option Row} {d:D} {u:Value} {M':Nat->Prop} (O:fU d=true) (U:RT w M' h blk V d u):RC w M' h blk V d u:=by
 cases d with
 | buf _ _ _ _ _=>simp[fU]at O
 | clo _ _ _=>simp[fU]at O
 | und=>simp[fU]at O
 | skp=>simp[fU]at O
 | box1 _ _ _ _ _=>simp[fU]at O
 | _=>exact U
theorem ze (X:Inv N M L w0 blk V t h a w) {f:Nat} {first caps:Array Operand} (Z:o.op=.makeFunc (.func f) first caps) (Y:(first.toList.map (ev t)++caps.toList.map (ev t)).all fU=true) :
  db P o a w (aJ N M L w0 V t h a e o.dst ⟨.clo f first.size (first.toList.map (ev t)++caps.toList.map (ev t)),[]⟩):=by
 refine av (v := .func (.func f) (first.map a.eval) (caps.map a.eval)) (w':=w) ?_ (aJ.ct X ?_)
 ·simp[execOp,Z,Instr.makeFunc]
 ·refine⟨first.toList.map a.eval++caps.toList.map a.eval,?_,by simp,fun j x O =>?_⟩
  ·rw[List.take_left' (by simp),List.drop_left' (by simp),<- Wy,<- Wy]
  rw[VR]at Y;have U:=Y x (V8 O);rw[<- List.map_append,VC,VD]at O;obtain⟨q,hq,rfl⟩:=O;have:(first.toList.map a.eval++caps.toList.map a.eval).getD j undef=a.eval q:=by rw[<- List.map_append];simp only[Wj,VC,hq];rfl
  rw[this];exact M6 U (X.ev q)
theorem L5 (hT:fb P T) (hΓ:bt P Γ) (Y:Inv N M L w0 blk V t h a w) (hV:∀d,o.dst=some d->fY N V d e) (hP:∀x v,V x v->x<N∨2*PK<=x) {E:aR} (O:jq T Γ e o (ev t) h=some E):db P o a w (aJ N M L w0 V t h a e o.dst E):=by
 unfold jq at O;split at O
 ·rename_i x U;simp only[VP]at O;subst O;exact AH Y (.inl U)
 ·rename_i x U;exact N0 Y U hV O
 ·rename_i c x y U;split at O
  ·rename_i hc;simp only[VP]at O;subst O;exact AI (b:=true) Y U hc
  ·rename_i hc;simp only[VP]at O;subst O;exact AI (b:=false) Y U hc
  ·cases O
 ·rename_i ty U;split at O
  ·rename_i τ d X Z;split at O
   ·rename_i hz;simp only[VP]at O;subst O;exact Ib (hint:=Γ.hint) hT Y U Z X (hV d Z) hz
   ·cases O
  ·cases O
 ·rename_i ty x U;split at O
  ·rename_i d cs fr Z hc;split at O
   ·simp only[VP]at O;subst O;exact N2 Y U Z (hV d Z) hc
   ·cases O
  ·cases O
 ·rename_i ty p U;split at O
  ·rename_i τ X;exact Qu hT Y U X O
  ·cases O
 ·rename_i ty p x U;split at O
  ·rename_i τ X;exact Ob hT Y hP U X O
  ·cases O
 ·rename_i x U;exact N8 Y U O
 ·rename_i ty x i U;split at O
  ·rename_i τ X;exact wZ hT Y U X O
  ·cases O
 ·rename_i ty x i U;split at O
  ·rename_i τ X;exact Ie hT Y U X O
  ·cases O
 ·rename_i ty x i U;split at O
  ·rename_i τ X;exact w1 hT Y U X O
  ·cases O
 ·rename_i ty x i U;split at O
  ·rename_i τ X;exact Ig hT Y U X O
  ·cases O
 ·rename_i ty x lo hi mx U;split at O
  ·rename_i τ X;exact Ih hT Y U X O
  ·cases O
 ·rename_i ty parts U;split at O
  ·rename_i τ X;exact N1 hT Y U X O
  ·cases O
 ·rename_i ty len parts U;split at O
  ·rename_i τ d X Z;exact vg hT Y U Z (hV d Z) X O
  ·cases O
 ·rename_i ty l c U;split at O
  ·rename_i τ d X Z;exact L0 hT Y U Z (hV d Z) X O
  ·cases O
 ·rename_i op ty x y ab U;split at O
  ·rename_i d Z;simp only[VP]at O;subst O;exact Ic hT Y U Z
  ·cases O
 ·rename_i op ty x U;split at O
  ·rename_i d Z;simp only[VP]at O;subst O;exact L2 Y U Z
  ·cases O
 ·rename_i src dst x U;split at O
  ·rename_i τ k n σ X hσ hx;split at O
   ·rename_i k' aa;simp only[VP]at O;subst O;exact CJ hT Y U X hσ aa hx
   ·cases O
  ·cases O
 ·rename_i fn first caps U
  split at O
  ·split at O
   ·rename_i hc;simp only[VP]at O;subst O;exact ze Y U hc
   ·cases O
  ·cases O
 ·rename_i ty U;split at O
  ·rename_i τ d X Z;exact CN hT Y U Z (hV d Z) X O
  ·cases O
 ·rename_i ty m i ok U;split at O
  ·rename_i τ X;exact EO hT Y U X O
  ·cases O
 ·rename_i ty m i x U;split at O
  ·rename_i τ X;exact oK hT Y (.inr U) X O
  ·cases O
 ·rename_i ty m i x U;split at O
  ·rename_i τ X;exact oK hT Y (.inl U) X O
  ·cases O
 ·rename_i x i U;split at O
  ·rename_i xs hx;split at O
   ·rename_i d Z;simp only[VP]at O;subst O;exact CL Y U hx Z
   ·cases O
  ·cases O
 ·rename_i c U;split at O
  ·rename_i f hc;exact LY hΓ Y U hc hV hP O
  ·rename_i b hc;exact CI hT Y U hc hV O
  ·cases O
 ·cases O
end
section
variable {T:Nat->Option Ty} {h h':Nat->Option Row} {e:Nat} {o:Oper} {Γ:Env}
theorem bG {x v:Nat} (O:h x=h' x):live h x v=live h' x v:=by simp[live,O]
theorem gj {x v:Nat} (O:h x=h' x):jX h x v=jX h' x v:=by simp[jX,O]
theorem jY {x v:Nat} (O:h x=h' x):fi h x v=fi h' x v:=by simp[fi,O]
theorem F2 {d:D} {x v:Nat} (O:h x=h' x):sC d h x v=sC d h' x v:=by unfold sC rv;rw[bG O,O]
theorem iZ {d:D} (O:∀x∈nm d,h x=h' x):b9 h d=b9 h' d:=by
 cases d<;>try rfl
 rename_i x v s o n;simp only[b9];rw[bG (O x (by simp[nm,ey]))]
theorem zd {d:D} (O:∀x∈nm d,h x=h' x):content h d=content h' d:=by
 cases d<;>try rfl
 rename_i x v s o n;simp only[content];rw[bG (O x (by simp[nm,ey]))]
theorem nk {d:D} (O:∀x∈nm d,h x=h' x):cT h d=cT h' d:=by
 cases d<;>first|rfl|(simp only[cT];rw[iZ O])
theorem oG {d:D} (O:∀x∈ey d,h x=h' x):aD h d=aD h' d:=by
 cases d<;>try rfl
 ·simp only[aD];rw[bG (O _ (by simp[ey]))]
 ·simp only[aD];rw[iZ (d := .buf _ _ _ _ _) O]
 ·simp only[aD];rw[iZ (d := .buf _ _ _ _ _) O]
 ·simp only[aD];rw[jY (O _ (by simp[ey]))]
 ·rename_i x v y;simp only[aD];rw[bG (O x (by simp[ey]))];have X:∀U,fi h y U=fi h' y U:=fun U=>jY (O y (by simp[ey]));simp only[X]
theorem nY:∀ {ds:List D},(∀d∈ds,∀x∈ey d,h x=h' x)->bU h ds=bU h' ds
 | [],_=>rfl
 | d::ds,hx=>by
  simp only[bU];rw[oG (hx d (by simp)),nY (fun U O=>hx U (by simp[O]))]
theorem oF (h:Nat->Option Row) {d:D} (O:∀f U xs,d ≠ .clo f U xs):aV h d=aD h d:=by cases d<;>first|rfl|exact absurd rfl (O _ _ _)
theorem KS {d:D} (O:∀f U xs,d ≠ .clo f U xs):nm d=ey d:=by cases d<;>first|rfl|exact absurd rfl (O _ _ _)
theorem NP (d:D):(∃f O xs,d=.clo f O xs)∨∀f O xs,d ≠ .clo f O xs:=by
 cases d<;>first|exact .inl ⟨_,_,_,rfl⟩|exact .inr (fun _ _ _ h=>by cases h)
theorem wN {d:D} (hx:∀x∈nm d,h x=h' x):aV h d=aV h' d:=by
 rcases NP d with⟨f,X,xs,rfl⟩|O
 ·simp only[aV];rw[nY (fun d O x U=>hx x (W9.2 ⟨d,O,U⟩))]
 ·rw[KS O]at hx;rw[oF h O,oF h' O];exact oG hx
theorem fC:∀ {ds:List D},(∀d∈ds,∀x∈nm d,h x=h' x)->aO h ds=aO h' ds
 | [],_=>rfl
 | d::ds,hx=>by
  simp only[aO];rw[wN (hx d (by simp)),fC (fun U O=>hx U (by simp[O]))]
theorem gE {fr:List Nat} (U:∀x∈fr,h x=h' x):fB h fr=fB h' fr:=by
 unfold fB;exact Xa fun x O=>by rw[U x O]
theorem mC {d U:D} {fr:List Nat} (O:b9 h d=some (U,fr)):∀x∈fr,x∈nm d:=by
 cases d<;>simp only[b9,VP,Prod.mk.injEq]at O<;>try (cases O;done)
 ·obtain⟨_,rfl⟩:=O;simp
 ·obtain⟨_,rfl⟩:=O;simp
 ·obtain⟨_,rfl⟩:=O;simp
 ·obtain⟨_,rfl⟩:=O;simp
 ·split at O
  ·split at O
   ·simp only[VP,Prod.mk.injEq]at O;obtain⟨_,rfl⟩:=O;simp[nm,ey]
   ·cases O
  ·cases O
theorem mB {d : D} {cs : List D} {fr : List Nat} (O : cT h d = some (cs, fr)) : ∀ x ∈ fr, x ∈ nm d := by
  cases d <;> simp only [cT] at O <;> first
    | (simp only [VP, Prod.mk.injEq] at O; obtain ⟨_, rfl⟩ := O; simp; done)
    | (split at O
       · rename_i h1
         simp only [VP, Prod.mk.injEq] at O;obtain ⟨_, rfl⟩ := O;exact mC h1
       · cases O)
theorem uh {d U:D} {fr:List Nat} (O:aD h d=some (U,fr)):∀x∈fr,x∈ey d:=by
 have one:∀d,(∀f Y xs,d ≠ .clo f Y xs)->aD h d=(match b9 h d with|some (U,fr)=>some (canon U,fr)|none=>none)->aD h d=some (U,fr)->∀x∈fr,x∈ey d:=by
  intro d X he O;rw[he]at O;split at O
  ·rename_i h1;simp only[VP,Prod.mk.injEq]at O;obtain⟨_,rfl⟩:=O;intro x Z;have:=mC h1 x Z;cases d<;>first|exact this|exact absurd rfl (X _ _ _)
  ·cases O
 cases d with
 | ptr x v o =>
  simp only[aD]at O;split at O
  ·split at O
   ·simp only[VP,Prod.mk.injEq]at O;obtain⟨_,rfl⟩:=O;simp[ey]
   ·cases O
  ·cases O
 | agg xs=>simp only[aD,VP,Prod.mk.injEq]at O;obtain⟨_,rfl⟩:=O;simp
 | ip xs=>simp only[aD,VP,Prod.mk.injEq]at O;obtain⟨_,rfl⟩:=O;simp
 | fn f=>simp only[aD,VP,Prod.mk.injEq]at O;obtain⟨_,rfl⟩:=O;simp
 | clo f Y xs=>simp[aD,b9]at O
 | box1 x v s o n =>
  simp only[aD]at O;split at O
  ·rename_i h1;simp only[VP,Prod.mk.injEq]at O;obtain⟨_,rfl⟩:=O;exact mC h1
  ·cases O
 | mp x v =>
  simp only[aD]at O;split at O
  ·simp only[VP,Prod.mk.injEq]at O;obtain⟨_,rfl⟩:=O;simp[ey]
  ·cases O
 | mpc ks vs=>simp only[aD,VP,Prod.mk.injEq]at O;obtain⟨_,rfl⟩:=O;simp
 | pm x v y =>
  simp only[aD]at O;split at O
  ·split at O
   ·split at O
    ·split at O
     ·simp only[VP,Prod.mk.injEq]at O;obtain⟨_,rfl⟩:=O;simp[ey]
     ·cases O
    ·cases O
   ·cases O
  ·cases O
 | _=>exact one _ (fun _ _ _ h=>by cases h) rfl O
theorem rV:∀ {ds U:List D} {fr:List Nat},bU h ds=some (U,fr)->∀x∈fr,x∈ds.flatMap ey
 | [],U,fr,O,x,X=>by
  simp only[bU,VP,Prod.mk.injEq]at O;obtain⟨_,rfl⟩:=O;simp at X
 | d::ds,U,fr,O,x,X=>by
  simp only[bU]at O;split at O
  ·rename_i h1;split at O
   ·rename_i h2;simp only[VP,Prod.mk.injEq]at O;obtain⟨_,rfl⟩:=O;rw[List.flatMap_cons];rcases WV.1 X with X|X
    ·exact VU _ (uh h1 x X)
    ·exact VV _ (rV h2 x X)
   ·cases O
  ·cases O
theorem Et {d X:D} {fr:List Nat} (O:aV h d=some (X,fr)):∀x∈fr,x∈nm d:=by
 rcases NP d with⟨f,Y,xs,rfl⟩|U
 ·simp only[aV]at O;split at O
  ·rename_i h1;simp only[VP,Prod.mk.injEq]at O;obtain⟨_,rfl⟩:=O;exact rV h1
  ·cases O
 ·rw[KS U];rw[oF h U]at O;exact uh O
theorem eC:∀ {ds U:List D} {fr:List Nat},aO h ds=some (U,fr)->∀x∈fr,∃d∈ds,x∈nm d
 | [],U,fr,O,x,X=>by
  simp only[aO,VP,Prod.mk.injEq]at O;obtain⟨_,rfl⟩:=O;simp at X
 | d::ds,U,fr,O,x,X=>by
  simp only[aO]at O;split at O
  ·rename_i h1;split at O
   ·rename_i h2;simp only[VP,Prod.mk.injEq]at O;obtain⟨_,rfl⟩:=O;rcases WV.1 X with X|X
    ·exact⟨d,by simp,Et h1 x X⟩
    ·obtain⟨d',Y,Z⟩:=eC h2 x X;exact⟨d',by simp[Y],Z⟩
   ·cases O
  ·cases O
theorem oP {place:Nat->Option (Nat×Nat)} : ∀ {parts:List (Nat×D)} {cells:List D},(∀p∈parts,∀x∈nm p.2,h x=h' x)->fh h place cells parts=fh h' place cells parts
 | [],_,_=>rfl
 | (i,d)::parts,cells,hx=>by
  simp only[fh];rw[nk (hx (i,d) (by simp))];have U:∀O,fh h place O parts=fh h' place O parts:=fun O=>oP (fun p X=>hx p (by simp[X]));simp only[U]
theorem oQ {place:Nat->Option (Nat×Nat)} : ∀ {parts:List (Nat×D)} {cells out:List D} {fr:List Nat},fh h place cells parts=some (out,fr)->∀x∈fr,∃p∈parts,x∈nm p.2
 | [],cells,out,fr,O,x,U=>by
  simp only[fh,VP,Prod.mk.injEq]at O;obtain⟨_,rfl⟩:=O;simp at U
 | (i,d)::parts,cells,out,fr,O,x,U=>by
  simp only[fh]at O;split at O
  ·rename_i h1 h2;split at O
   ·split at O
    ·rename_i h3;simp only[VP,Prod.mk.injEq]at O;obtain⟨_,rfl⟩:=O;rcases WV.1 U with U|U
     ·exact⟨(i,d),by simp,mB h2 x U⟩
     ·obtain⟨p,Y,X⟩:=oQ h3 x U;exact⟨p,by simp[Y],X⟩
    ·cases O
   ·cases O
  ·cases O
theorem ew {fr:List Nat} {p:Nat×Option Row} (O:p∈fB h fr):p.1∈fr:=by
 unfold fB at O;obtain⟨x,U,rfl⟩:=VF.1 O;exact U
theorem zh {τ:Ty} {d:D} (O:∀x∈nm d,h x=h' x):ch τ h d=ch τ h' d:=by
 cases d<;>try rfl
 simp only[ch];rw[bG (O _ (by simp[nm,ey]))]
theorem pb {x v:Nat} (O:h x=h' x):iL h x v=iL h' x v:=by
 unfold iL;rw[O]
theorem CS {τ:Ty} {x v y:Nat} (X:h x=h' x) (O:h y=h' y):kY τ h x v y (iL h x v)=kY τ h' x v y (iL h' x v):=by
 rw[pb X];cases iL h' x v with
 | none=>rfl
 | some q =>
  obtain⟨r,y',s,n⟩:=q;simp only[kY];rw[O,gE (fr:=[y]) (fun z U=>by simp only[V3]at U;subst U;exact O)]
theorem EY {τ:Ty} {d:D} (O:∀x∈nm d,h x=h' x):jV τ h d=jV τ h' d:=by
 have U:=zh (τ:=τ) O;cases d with
 | ptr x v o =>
  simp only[jV];rw[bG (O x (by simp[nm,ey]))];cases live h' x v with
  | none=>rfl
  | some r=>simp only[kZ];rw[U]
 | pm x v y =>
  simp only[jV];rw[bG (O x (by simp[nm,ey])),CS (O x (by simp[nm,ey])) (O y (by simp[nm,ey]))]
 | _=>exact U
theorem xh {τ:Ty} {p d:D} (U:∀x∈nm p,h x=h' x) (hx:∀x∈nm d,h x=h' x):bQ τ h p d=bQ τ h' p d:=by
 cases p<;>try rfl
 simp only[bQ];rw[bG (U _ (by simp[nm,ey])),nk hx];cases live h' _ _ with
 | none=>rfl
 | some r =>
  cases X:cT h' d with
  | none=>rfl
  | some q =>
   obtain⟨cs,fr⟩:=q;simp only;rw[gE (fr:=fr) (fun x O=>hx x (mB X x O))]
theorem CV {τ:Ty} {p d:D} (O:∀x∈nm p,h x=h' x) (U:∀x∈nm d,h x=h' x):bW τ h p d=bW τ h' p d:=by
 have X:=xh (τ:=τ) O U;cases d with
 | box1 y Y s Z n =>
  cases p with
  | ptr x v o =>
   simp only[bW];rw[bG (O _ (by simp[nm,ey]))]
  | pm x v k =>
   simp only[bW];rw[bG (O x (by simp[nm,ey])),bG (U y (by simp[nm,ey]))]
  | _=>rfl
 | mp y' v' =>
  cases p with
  | pm x v y =>
   simp only[bW];rw[bG (O x (by simp[nm,ey])),jY (O y (by simp[nm,ey]))]
  | _=>rfl
 | _=>exact X
theorem uR {d:D} (O:∀x∈nm d,h x=h' x):mapOf h d=mapOf h' d:=by
 cases d<;>try rfl
 simp only[mapOf];rw[jY (O _ (by simp[nm,ey]))]
theorem vn {τ:Ty} {m i:D} {ok:Bool} (O:∀x∈nm m,h x=h' x):fJ T τ h m i ok=fJ T τ h' m i ok:=by
 unfold fJ;rw[uR O]
theorem Ji {d:D} (O:∀x∈nm d,h x=h' x):rK h d=rK h' d:=by
 cases d<;>first|rfl|(simp only[rK];rw[iZ O])
theorem LC {d U : D} {fr : List Nat} (O : rK h d = some (U, fr)) : ∀ x ∈ fr, x ∈ nm d := by
  cases d <;> simp only [rK] at O <;> first
    | (simp only [VP, Prod.mk.injEq] at O; obtain ⟨_, rfl⟩ := O; simp; done)
    | (split at O
       · rename_i h1
         simp only [VP, Prod.mk.injEq] at O;obtain ⟨_, rfl⟩ := O;exact mC h1
       · cases O)
theorem lf {τ:Ty} {m i d:D} (U:∀x∈nm m,h x=h' x) (hd:∀x∈nm d,h x=h' x):cj T τ h m i d=cj T τ h' m i d:=by
 unfold cj;rw[Ji hd];split
 ·rename_i _ _ y v n Z fr _ _ X;have O:=U y (by simp[nm,ey]);rw[O,jY O];rw[gE (fun z Y=>hd z (LC X z Y))]
 ·rfl
theorem CU {d:D} (O:∀x∈nm d,h x=h' x):gh h d=gh h' d:=by
 cases d<;>try rfl
 simp only[gh];rw[gj (O _ (by simp[nm,ey]))]
theorem xf {τ:Ty} {i:Nat} {d:D} (O:∀x∈nm d,h x=h' x):cw T τ h i d=cw T τ h' i d:=by
 cases d<;>try rfl
 ·simp only[cw];rw[gj (O _ (by simp[nm,ey]))]
 ·simp only[cw];rw[pb (O _ (by simp[nm,ey]))]
theorem qZ {τ:Ty} {d i:D} (O:∀x∈nm d,h x=h' x):aU T τ h d i=aU T τ h' d i:=by
 cases d<;>cases i<;>try rfl
 ·simp only[aU];rw[bG (O _ (by simp[nm,ey]))]
 ·simp only[aU];rw[gj (O _ (by simp[nm,ey]))]
theorem xg {τ:Ty} {d:D} {O U X:Option D} (Y:∀x∈nm d,h x=h' x):bJ T τ h d O U X=bJ T τ h' d O U X:=by
 cases d<;>try rfl
 simp only[bJ];rw[bG (Y _ (by simp[nm,ey]))]
theorem xd {τ:Ty} {parts:List (Nat×D)} (X:∀p∈parts,∀x∈nm p.2,h x=h' x):dj T τ h parts=dj T τ h' parts:=by
 unfold dj;have h1:∀pl cells,fh h pl cells parts=fh h' pl cells parts:=fun pl cells=>oP X;split
 ·split
  ·rw[h1];split
   ·rename_i Y;rw[gE (fun x O=>by obtain⟨p,Z,U⟩:=oQ Y x O;exact X p Z x U)]
   ·rfl
  ·rfl
 ·rfl
theorem CQ {q:Nat->Bool} {τ:Ty} {dst:Option Nat} {parts:List (Nat×D)} (O:∀p∈parts,∀x∈nm p.2,h x=h' x):kU q T τ h dst parts=kU q T τ h' dst parts:=by
 have U:=xd (T:=T) (τ:=τ) O;unfold kU;split
 ·split
  ·exact U
  ·split
   ·rename_i x v s o n _;have e:alive h (.buf x v s o n)=alive h' (.buf x v s o n):=by
     simp only[alive];rw[gj (O (0,.buf x v s o n) (by simp) x (by simp[nm,ey]))]
    rw[e]
   ·rename_i x v s o n _;have e:alive h (.buf x v s o n)=alive h' (.buf x v s o n):=by
     simp only[alive];rw[gj (O (0,.box1 x v s o n) (by simp) x (by simp[nm,ey]))]
    rw[e]
   ·rw[U]
 ·exact U
theorem qw {τ:Ty} {d len:Nat} {parts:List (Nat×D)} (X:∀p∈parts,∀x∈nm p.2,h x=h' x):cv T τ h e d len parts=cv T τ h' e d len parts:=by
 unfold cv;have h1:∀pl cells,fh h pl cells parts=fh h' pl cells parts:=fun pl cells=>oP X;split
 ·split
  ·split
   ·rw[h1];split
    ·rename_i Y;rw[gE (fun x O=>by obtain⟨p,Z,U⟩:=oQ Y x O;exact X p Z x U)]
    ·rfl
   ·rfl
  ·rfl
 ·rfl
theorem vk {τ:Ty} {d:Nat} {s x:D} (hs:∀y∈nm s,h y=h' y) (O:∀y∈nm x,h y=h' y):fI T τ h e d s x=fI T τ h' e d s x:=by
 unfold fI;rw[zd O];cases s<;>try rfl
 simp only;rw[bG (hs _ (by simp[nm,ey]))]
theorem DP {d:D} (O:∀x∈nm d,h x=h' x):alive h d=alive h' d:=by
 cases d<;>try rfl
 all_goals
  simp only[alive];rw[gj (O _ (by simp[nm,ey]))]
theorem tn {dst:Option Nat} {b:Builtin} {O:List Nat} {args:List D} (U:∀d∈args,∀x∈nm d,h x=h' x):bu T h e dst b O args=bu T h' e dst b O args:=by
 unfold bu;split
 ·rw[DP (U _ (by simp)),uR (U _ (by simp))]
 ·split
  ·split
   ·rw[vk (U _ (by simp)) (U _ (by simp))]
   ·rfl
  ·rfl
 ·rfl
 ·rfl
 ·rfl
theorem ub {dst:Option Nat} {g:Nat} {args:List D} (X:∀d∈args,∀x∈nm d,h x=h' x):oC Γ h e dst g args=oC Γ h' e dst g args:=by
 unfold oC;rw[fC X];split
 ·rename_i Y;rw[gE (fun x O=>by obtain⟨d,Z,U⟩:=eC Y x O;exact X d Z x U)]
 ·rfl
theorem oD {dst:Option Nat} {g x v:Nat} {d0:D} {args:List D} (Y:h x=h' x) (X:∀d∈args,∀x∈nm d,h x=h' x):kR Γ h e dst g x v d0 args=kR Γ h' e dst g x v d0 args:=by
 unfold kR;rw[F2 Y,fC X];split
 ·split
  ·split
   ·rename_i Z;rw[gE (fun x O=>by obtain⟨d,hd,U⟩:=eC Z x O;exact X d hd x U)]
   ·rfl
  ·rfl
 ·rfl
theorem D4 {dst:Option Nat} {p:Nat×Nat×Nat} {args:List D} (O:∀d∈args,∀x∈nm d,h x=h' x):nX h e dst p args=nX h' e dst p args:=by
 unfold nX;split
 ·rw[bG (O _ Xb _ (by simp[nm,ey])),bG (O _ (Xc _ (Xc _ Xb)) _ (by simp[nm,ey]))]
 ·rfl
theorem D0 {p:Grow} {args:List D} (O:∀d∈args,∀x∈nm d,h x=h' x):nW h p args=nW h' p args:=by
 unfold nW;split
 ·rw[pb (O _ Xb _ (by simp[nm,ey])),O _ Xb _ (show _∈nm (D.pm _ _ _) by simp only[nm,ey];exact Xc _ Xb)]
 ·rfl
theorem zg {dst:Option Nat} {f:D} {args:List D} (Z:∀x∈nm f,h x=h' x) (hx:∀d∈args,∀x∈nm d,h x=h' x):eV Γ h e dst f args=eV Γ h' e dst f args:=by
 cases f<;>try rfl
 ·rename_i g;simp only[eV];split
  ·exact D4 hx
  split
  ·exact D0 hx
  split
  ·split
   ·exact oD (hx _ Xb _ (by simp[nm,ey])) (fun d O=>hx d (Xc _ O))
   ·exact oD (hx _ Xb _ (by simp[nm,ey])) (fun d O=>hx d (Xc _ O))
   ·exact oD (hx _ Xb _ (by simp[nm,ey])) (fun d O=>hx d (Xc _ O))
   ·rfl
  ·exact ub hx
 ·rename_i g kk caps;simp only[eV];split
  ·rename_i X;rw[VR]at X;have U:∀d∈caps,∀x∈nm d,h x=h' x:=fun d O x Y=>by
    have:=X d O;rw[KS (fun f kk xs he=>by rw[he]at this;cases this)]at Y;exact Z x (W9.2 ⟨d,O,Y⟩)
   refine ub fun d O =>?_;rcases WV.1 O with O|O
   ·exact U d (Wq O)
   ·rcases WV.1 O with O|O
    ·exact hx d O
    ·exact U d (Wo O)
  ·rfl
theorem nZ {ty:Nat} {dst:Option Nat} {x:D} (O:∀y∈nm x,h y=h' y):aW T ty e dst h x=aW T ty e dst h' x:=by
 unfold aW;split
 ·rw[bG (O _ (by simp[nm,ey])),gj (O _ (by simp[nm,ey]))]
 ·rfl
 ·rfl
theorem CG {d:D} (U:∀x∈nm d,h x=h' x):kS h d=kS h' d:=by
 by_cases O:∀xs,d ≠ .agg xs
 ·rw[pW O,pW O];exact iZ U
 ·simp only[ne_eq,Classical.not_forall,Classical.not_not]at O;obtain⟨xs,rfl⟩:=O;rfl
theorem An {d X:D} {fr:List Nat} (O:kS h d=some (X,fr)):∀x∈fr,x∈nm d:=by
 by_cases U:∀xs,d ≠ .agg xs
 ·rw[pW U]at O;exact mC O
 ·simp only[ne_eq,Classical.not_forall,Classical.not_not]at U;obtain⟨xs,rfl⟩:=U;simp only[kS,VP,Prod.mk.injEq]at O;obtain⟨_,rfl⟩:=O;simp
theorem CP {q:Nat->Bool} {ty:Nat} {dst:Option Nat} {x:D} (hx:∀y∈nm x,h y=h' y):me T q ty e dst h x=me T q ty e dst h' x:=by
 unfold me eX;rw[CG hx];split
 ·rw[nZ hx];split
  ·rfl
  ·split
   ·rename_i O;rw[gE fun y U=>hx y (An O y U)]
   ·rfl
 ·exact nZ hx
theorem L4 {vs : Operand -> D} (hx : ∀ x ∈ ej o vs, h x = h' x) : jq T Γ e o vs h = jq T Γ e o vs h' := by
  have key : ∀ y, y ∈ o.op.operands.toList -> (∀ a b c, o.op ≠ .pick a b c) -> (∀ a, o.op ≠ .move a) -> (∀ a b c, o.op ≠ .makeFunc a b c) -> ∀ x ∈ nm (vs y), h x = h' x := by
    intro y X h1 h2 h3 x Y;apply hx x;unfold ej;split
    · rename_i U; exact absurd U (h2 _)
    · rename_i U; exact absurd U (h1 _ _ _)
    · rename_i U; exact absurd U (h3 _ _ _)
    · exact VU _ (W9.2 ⟨y, X, Y⟩)
  unfold jq;cases U : o.op <;> (try simp only) <;> rw [U] at key <;> try rfl
  case assign x => exact CP (key x (by simp [Op.operands]) (by simp) (by simp) (by simp))
  case box ty x => rw [nk (key x (by simp [Op.operands]) (by simp) (by simp) (by simp))]
                   split
                   · rename_i Z
                     rw [gE (fun z hz => key x (by simp [Op.operands]) (by simp) (by simp) (by simp) z (mB Z z hz))]
                   · rfl
  case load ty x => simp only [EY (key x (by simp [Op.operands]) (by simp) (by simp) (by simp))]
  case store ty x y => simp only [CV (key x (by simp [Op.operands]) (by simp) (by simp) (by simp)) (key y (by simp [Op.operands]) (by simp) (by simp) (by simp))]
  case nilCheck x => exact CU (key x (by simp [Op.operands]) (by simp) (by simp) (by simp))
  case fieldAddr ty x i => simp only [xf (key x (by simp [Op.operands]) (by simp) (by simp) (by simp))]
  case makeMap ty res => cases res <;> rfl
  case lookup ty m i ok => simp only [vn (key m (by simp [Op.operands]) (by simp) (by simp) (by simp))]
  case mapUpdate ty m i x => simp only [lf (key m (by simp [Op.operands]) (by simp) (by simp) (by simp)) (key x (by simp [Op.operands]) (by simp) (by simp) (by simp))]
  case insert ty m i x => simp only [lf (key m (by simp [Op.operands]) (by simp) (by simp) (by simp)) (key x (by simp [Op.operands]) (by simp) (by simp) (by simp))]
  case indexAddr ty x i => simp only [qZ (key x (by simp [Op.operands]) (by simp) (by simp) (by simp))]
  case slice ty x lo hi mx => simp only [xg (key x (by simp [Op.operands]) (by simp) (by simp) (by simp))]
  case build ty parts =>
    have : ∀ p ∈ parts.toList.map (fun p => (p.1, vs p.2)), ∀ x ∈ nm p.2, h x = h' x := by
      intro p hp x O;obtain ⟨q, hq, rfl⟩ := VF.1 hp;exact key q.2 (by simp only [Op.operands, List.toList_toArray]; exact VF.2 ⟨q, hq, rfl⟩) (by simp) (by simp) (by simp) x O
    simp only [CQ this]
  case buildSlice ty len parts =>
    have : ∀ p ∈ parts.toList.map (fun p => (p.1, vs p.2)), ∀ x ∈ nm p.2, h x = h' x := by
      intro p hp x O;obtain ⟨q, hq, rfl⟩ := VF.1 hp;exact key q.2 (by simp only [Op.operands, List.toList_toArray]; exact VF.2 ⟨q, hq, rfl⟩) (by simp) (by simp) (by simp) x O
    simp only [qw this]
  case call c =>
    have : ∀ d ∈ c.args.toList.map vs, ∀ x ∈ nm d, h x = h' x := by
      intro d hd x O;obtain ⟨y, X, rfl⟩ := VF.1 hd;exact key y (by simp only [Op.operands, Call.operands, WZ]; exact VV _ X) (by simp) (by simp) (by simp) x O
    cases Z : c.callee with
    | value f => exact zg (key f (by simp [Op.operands, Call.operands, Z]) (by simp) (by simp) (by simp)) this
    | builtin b => exact tn this
    | invoke _ _ => rfl
theorem Si {vs O:Operand->D} (hx:∀y∈o.op.operands.toList,vs y=O y):jq T Γ e o vs h=jq T Γ e o O h∧ej o vs=ej o O:=by
 refine⟨?_,?_⟩
 ·unfold jq;cases Z:o.op<;>(try simp only)<;>rw[Z]at hx<;>try rfl
  case move x=>rw[hx x (by simp[Op.operands])]
  case assign x=>rw[hx x (by simp[Op.operands])]
  case pick a b c=>rw[hx a (by simp[Op.operands]),hx b (by simp[Op.operands]),hx c (by simp[Op.operands])]
  case box ty x=>rw[hx x (by simp[Op.operands])]
  case load ty x=>rw[hx x (by simp[Op.operands])]
  case store ty x y=>rw[hx x (by simp[Op.operands]),hx y (by simp[Op.operands])]
  case nilCheck x=>rw[hx x (by simp[Op.operands])]
  case fieldAddr ty x i=>rw[hx x (by simp[Op.operands])]
  case field ty x i=>rw[hx x (by simp[Op.operands])]
  case makeMap ty res=>cases res<;>rfl
  case lookup ty m i ok=>rw[hx m (by simp[Op.operands]),hx i (by simp[Op.operands])]
  case mapUpdate ty m i x=>rw[hx m (by simp[Op.operands]),hx i (by simp[Op.operands]),hx x (by simp[Op.operands])]
  case insert ty m i x=>rw[hx m (by simp[Op.operands]),hx i (by simp[Op.operands]),hx x (by simp[Op.operands])]
  case indexAddr ty x i=>rw[hx x (by simp[Op.operands]),hx i (by simp[Op.operands])]
  case index ty x i=>rw[hx x (by simp[Op.operands]),hx i (by simp[Op.operands])]
  case slice ty x lo hi mx =>
   rw[hx x (by simp[Op.operands])];have e1:lo.map vs=lo.map O:=by cases lo with|none=>rfl|some y=>simp only[Option.map_some];rw[hx y (by simp[Op.operands])]
   have e2:hi.map vs=hi.map O:=by cases hi with|none=>rfl|some y=>simp only[Option.map_some];rw[hx y (by simp[Op.operands])]
   have e3:mx.map vs=mx.map O:=by cases mx with|none=>rfl|some y=>simp only[Option.map_some];rw[hx y (by simp[Op.operands])]
   rw[e1,e2,e3]
  case build ty parts =>
   have:parts.toList.map (fun p=>(p.1,vs p.2))=parts.toList.map (fun p=>(p.1,O p.2)):=Xa fun p hp=>by rw[hx p.2 (by simp only[Op.operands,List.toList_toArray];exact VF.2 ⟨p,hp,rfl⟩)]
   rw[this]
  case buildSlice ty len parts =>
   have:parts.toList.map (fun p=>(p.1,vs p.2))=parts.toList.map (fun p=>(p.1,O p.2)):=Xa fun p hp=>by rw[hx p.2 (by simp only[Op.operands,List.toList_toArray];exact VF.2 ⟨p,hp,rfl⟩)]
   rw[this]
  case makeSlice ty l c=>rw[hx l (by simp[Op.operands]),hx c (by simp[Op.operands])]
  case binOp op ty x y aa=>rw[hx x (by simp[Op.operands]),hx y (by simp[Op.operands])]
  case unOp op ty x=>rw[hx x (by simp[Op.operands])]
  case convert s d x=>rw[hx x (by simp[Op.operands])]
  case makeFunc fn first caps =>
   have:caps.toList.map vs=caps.toList.map O:=Xa fun y U=>hx y (by simp only[Op.operands,WZ];exact VV _ U);have X:first.toList.map vs=first.toList.map O:=Xa fun y U=>hx y (by simp only[Op.operands,WZ];exact VU _ U)
   rw[this,X]
  case extract x i=>rw[hx x (by simp[Op.operands])]
  case call c =>
   have:c.args.toList.map vs=c.args.toList.map O:=Xa fun y U=>hx y (by simp only[Op.operands,Call.operands,WZ];exact VV _ U);cases hc:c.callee with
   | value f=>simp only;rw[this,hx f (by simp[Op.operands,Call.operands,hc])]
   | builtin b=>simp only;rw[this]
   | invoke _ _=>rfl
 ·have Y:o.op.operands.toList.flatMap (fun y=>nm (vs y))=o.op.operands.toList.flatMap (fun y=>nm (O y)):=by
   rw[List.flatMap_def,List.flatMap_def];congr 1;exact Xa fun y U=>by rw[hx y U]
  unfold ej;cases Z:o.op<;>simp only<;>rw[Z]at Y<;>rw[Y]
end
section
variable {T:Nat->Option Ty} {h h':Nat->Option Row} {e:Nat} {o:Oper} {Γ:Env}
theorem vl {τ:Ty} {d:Nat} {s x:D} {E:aR} (O:fI T τ h e d s x=some E):∀p∈E.hw,p.1=d∨p.1∈nm s:=by
 unfold fI at O;split at O
 ·split at O
  ·split at O
   ·split at O
    ·split at O
     ·split at O
      ·simp only[VP]at O;subst O;intro p U;simp at U
      ·simp only[VP]at O;subst O;intro p U;simp at U;exact .inl (by rw[U])
     ·cases O
    ·split at O
     ·split at O
      ·simp only[VP]at O;subst O;intro p U;simp only[VN,WL,or_false]at U;rcases U with rfl|rfl
       ·exact .inr (by simp[nm,ey])
       ·exact .inl rfl
      ·cases O
     ·cases O
    ·cases O
   ·cases O
  ·cases O
 ·cases O
theorem uc {dst:Option Nat} {g:Nat} {args:List D} {E:aR} (O:oC Γ h e dst g args=some E):∀p∈E.hw,dst=some p.1∨∃d∈args,p.1∈nm d:=by
 unfold oC at O;split at O
 ·rename_i X;split at O
  ·simp only[VP]at O;subst O;intro p U;simp only at U;split at U
   ·simp at U
   ·exact .inr (eC X _ (ew U))
  ·split at O
   ·split at O
    ·simp only[VP]at O;subst O;intro p U;simp only[WV,V3]at U;rcases U with U|rfl
     ·split at U
      ·simp at U
      ·exact .inr (eC X _ (ew U))
     ·exact .inl rfl
    ·cases O
   ·cases O
  ·cases O
 ·cases O
theorem D1 {p:Grow} {args:List D} {E:aR} (O:nW h p args=some E):∀q∈E.hw,∃d∈args,q.1∈nm d:=by
 unfold nW at O;split at O<;>try (cases O;done)
 split at O<;>try (cases O;done)
 split at O<;>try (cases O;done)
 rename_i U;obtain⟨rfl,_⟩:=U;split at O<;>try (cases O;done)
 simp only[VP]at O;subst O;intro q X;simp only[VN,WL,or_false]at X;rcases X with rfl|rfl
 ·exact⟨_,Xb,by simp[nm,ey]⟩
 ·exact⟨_,Xb,by simp[nm,ey]⟩
theorem D5 {dst:Option Nat} {p:Nat×Nat×Nat} {args:List D} {E:aR} (O:nX h e dst p args=some E):∀q∈E.hw,dst=some q.1∨∃d∈args,q.1∈nm d:=by
 unfold nX at O;split at O<;>try (cases O;done)
 split at O<;>try (cases O;done)
 split at O<;>try (cases O;done)
 simp only[VP]at O;subst O;intro q U;simp only[VN,WL,or_false]at U;rcases U with rfl|rfl|rfl
 ·exact .inr ⟨_,Xc _ (Xc _ Xb),by simp[nm,ey]⟩
 ·exact .inr ⟨_,Xb,by simp[nm,ey]⟩
 ·exact .inl rfl
theorem oE {dst:Option Nat} {g x v:Nat} {d0:D} {args:List D} {E:aR} (O:kR Γ h e dst g x v d0 args=some E):∀p∈E.hw,dst=some p.1∨p.1=x∨∃d∈args,p.1∈nm d:=by
 unfold kR at O;split at O<;>try (cases O;done)
 split at O<;>try (cases O;done)
 split at O<;>try (cases O;done)
 rename_i X;split at O<;>try (cases O;done)
 split at O<;>try (cases O;done)
 ·simp only[VP]at O;subst O;intro p U;simp only[WV,V3]at U;rcases U with U|rfl
  ·exact .inr (.inr (eC X _ (ew U)))
  ·exact .inr (.inl rfl)
 ·simp only[VP]at O;subst O;intro p U;simp only[WV,V3]at U;rcases U with U|rfl
  ·exact .inr (.inr (eC X _ (ew U)))
  ·exact .inr (.inl rfl)
 ·split at O<;>try (cases O;done)
  split at O<;>try (cases O;done)
  simp only[VP]at O;subst O;intro p U;simp only[WV,VN,WL,or_false]at U;rcases U with U|rfl|rfl
  ·exact .inr (.inr (eC X _ (ew U)))
  ·exact .inr (.inl rfl)
  ·exact .inl rfl
theorem q9 {τ:Ty} {d:D} {E:aR} (O:ch τ h d=some E):E.hw=[]:=by
 cases d<;>simp only[ch]at O<;>try (cases O;done)
 all_goals (repeat' split at O)<;>first|(cases O;done)|(simp only[VP]at O;subst O;rfl)
theorem Oj {τ:Ty} {d:D} {E:aR} (O:jV τ h d=some E):∀p∈E.hw,p.1∈nm d:=by
 have none_:E.hw=[]->∀p∈E.hw,p.1∈nm d:=fun he p U=>by rw[he]at U;simp at U
 have X:ch τ h d=some E->∀p∈E.hw,p.1∈nm d:=fun he=>none_ (q9 he);cases d with
 | ptr x v o =>
  simp only[jV]at O;cases X:live h x v with
  | none=>rw[X]at O;cases O
  | some r =>
   rw[X]at O;simp only[kZ]at O;split at O
   ·split at O
    ·split at O
     ·exact none_ (by simp only[VP]at O;subst O;rfl)
     ·exact none_ (q9 O)
    ·cases O
   ·exact none_ (q9 O)
 | pm x v y =>
  simp only[jV]at O;split at O
  ·split at O
   ·split at O
    ·exact none_ (by simp only[VP]at O;subst O;rfl)
    ·cases O
   ·cases O
  ·unfold kY at O;split at O
   ·split at O
    ·split at O
     ·simp only[VP]at O;subst O;intro p U;have:=ew U;simp only[V3]at this;rw[this];simp[nm,ey]
     ·cases O
    ·cases O
   ·cases O
 | _=>exact X O
theorem xi {τ:Ty} {q d:D} {E:aR} (O:bQ τ h q d=some E):∀p∈E.hw,p.1∈nm d∨p.1∈nm q:=by
 cases q<;>simp only[bQ]at O<;>try (cases O;done)
 split at O
 ·split at O
  ·rename_i X;split at O
   ·simp only[VP]at O;subst O;intro p U;rcases WV.1 U with U|U
    ·exact .inl (mB X _ (ew U))
    ·simp only[V3]at U;subst U;exact .inr (by simp[nm,ey])
   ·cases O
  ·cases O
 ·cases O
theorem CW {τ:Ty} {q d:D} {E:aR} (O:bW τ h q d=some E):∀p∈E.hw,p.1∈nm d∨p.1∈nm q:=by
 have X:bQ τ h q d=some E->∀p∈E.hw,p.1∈nm d∨p.1∈nm q:=xi;cases d with
 | box1 y Y s Z n =>
  cases q with
  | ptr x v o =>
   simp only[bW]at O;split at O
   ·split at O
    ·simp only[VP]at O;subst O;intro p U;simp only[V3]at U;subst U;exact .inr (by simp[nm,ey])
    ·cases O
   ·cases O
  | pm x v k =>
   simp only[bW]at O;split at O
   ·split at O
    ·simp only[VP]at O;subst O;intro p U;simp only[VN,WL,or_false]at U;rcases U with rfl|rfl|rfl
     ·exact .inl (by simp[nm,ey])
     ·exact .inr (by simp[nm,ey])
     ·exact .inr (by simp[nm,ey])
    ·cases O
   ·cases O
  | _=>simp[bW]at O
 | mp y' v' =>
  cases q with
  | pm x v y =>
   simp only[bW]at O;split at O
   ·split at O
    ·simp only[VP]at O;subst O;intro p U;simp only[V3]at U;subst U;exact .inr (by simp[nm,ey])
    ·cases O
   ·cases O
  | _=>simp[bW]at O
 | _=>exact X O
theorem CT {τ:Ty} {m i:D} {ok:Bool} {E:aR} (O:fJ T τ h m i ok=some E):E.hw=[]:=by
 unfold fJ at O;split at O
 ·split at O
  ·split at O
   ·simp only[VP]at O;subst O;rfl
   ·cases O
  ·cases O
 ·cases O
theorem lh {τ:Ty} {m i d:D} {E:aR} (O:cj T τ h m i d=some E):∀p∈E.hw,p.1∈nm d∨p.1∈nm m:=by
 unfold cj at O;split at O
 ·rename_i X;split at O
  ·split at O
   ·split at O
    ·simp only[VP]at O;subst O;intro p U;rcases WV.1 U with U|U
     ·exact .inl (LC X _ (ew U))
     ·simp only[V3]at U;subst U;exact .inr (by simp[nm,ey])
    ·cases O
   ·cases O
  ·cases O
 ·cases O
theorem kV {τ:Ty} {parts:List (Nat×D)} {E:aR} (O:dj T τ h parts=some E):∀p∈E.hw,∃q∈parts,p.1∈nm q.2:=by
 unfold dj at O;split at O
 ·split at O
  ·split at O
   ·rename_i U;simp only[VP]at O;subst O;intro p X;exact oQ U _ (ew X)
   ·cases O
  ·cases O
 ·cases O
theorem CR {q:Nat->Bool} {τ:Ty} {dst:Option Nat} {parts:List (Nat×D)} {E:aR} (O:kU q T τ h dst parts=some E):∀p∈E.hw,∃q∈parts,p.1∈nm q.2:=by
 unfold kU at O;split at O
 ·split at O
  ·exact kV O
  ·split at O
   ·split at O
    ·simp only[VP]at O;subst O;intro p U;simp at U
    ·cases O
   ·split at O
    ·simp only[VP]at O;subst O;intro p U;simp at U
    ·cases O
   ·unfold cE at O;split at O
    ·rename_i X;simp only[VP]at O;subst O;have Y:=kV X;exact Y
    ·cases O
 ·exact kV O
theorem AN {vs:Operand->D} {E:aR} (O:jq T Γ e o vs h=some E):∀p∈E.hw,p.1∈ej o vs:=by
 have key:∀y,y∈o.op.operands.toList->(∀a b c,o.op ≠ .pick a b c)->(∀a,o.op ≠ .move a)->(∀a b c,o.op ≠ .makeFunc a b c)->∀x∈nm (vs y),x∈ej o vs:=by
  intro y hy h1 h2 h3 x ah;unfold ej;split
  ·rename_i ho;exact absurd ho (h2 _)
  ·rename_i ho;exact absurd ho (h1 _ _ _)
  ·rename_i ho;exact absurd ho (h3 _ _ _)
  ·exact VU _ (W9.2 ⟨y,hy,ah⟩)
 have keyd:∀d,o.dst=some d->(∀a b c,o.op ≠ .pick a b c)->(∀a,o.op ≠ .move a)->(∀a b c,o.op ≠ .makeFunc a b c)->d∈ej o vs:=by
  intro d X h1 h2 h3;unfold ej;split
  ·rename_i ho;exact absurd ho (h2 _)
  ·rename_i ho;exact absurd ho (h1 _ _ _)
  ·rename_i ho;exact absurd ho (h3 _ _ _)
  ·exact VV _ (by rw[X];simp)
 have none_:∀(d:D),(some ⟨d,[]⟩:Option aR)=some E->∀p∈E.hw,p.1∈ej o vs:=by
  intro d he p U;simp only[VP]at he;subst he;simp at U
 unfold jq at O;cases ho:o.op<;>rw[ho]at O key keyd<;>simp only at O<;>try (cases O;done)
 case move x=>exact none_ _ O
 case assign x =>
  have hold:aW T o.type e o.dst h (vs x)=some E->∀p∈E.hw,p.1∈ej o vs:=by
   intro O;unfold aW at O;split at O
   ·rename_i y v s c n Y;split at O
    ·rename_i X _;split at O
     ·exact none_ _ O
     ·simp only[VP]at O;subst O;intro p U;simp only[VN,WL,or_false]at U;rcases U with rfl|rfl
      ·exact key x (by simp[Op.operands]) (by simp) (by simp) (by simp) _ (by rw[Y];simp[nm,ey])
      ·exact keyd _ X (by simp) (by simp) (by simp)
    ·split at O
     ·exact none_ _ O
     ·exact none_ _ O
   ·split at O
    ·rename_i X _;split at O
     ·split at O
      ·simp only[VP]at O;subst O;intro p U;simp only[V3]at U;subst U;exact keyd _ X (by simp) (by simp) (by simp)
      ·cases O
     ·cases O
    ·cases O
   ·exact none_ _ O
  unfold me at O;split at O
  ·rename_i d X;split at O
   ·rw[<- X]at O;exact hold O
   ·unfold eX at O;split at O
    ·rename_i d' fr hc;simp only[VP]at O;subst O;intro p U;exact key x (by simp[Op.operands]) (by simp) (by simp) (by simp) _ (An hc _ (ew U))
    ·cases O
  ·rename_i X;rw[<- X]at O;exact hold O
 case pick a b c =>
  split at O
  ·exact none_ _ O
  ·exact none_ _ O
  ·cases O
 case alloc ty =>
  split at O
  ·rename_i X;split at O
   ·simp only[VP]at O;subst O;intro p U;simp only[V3]at U;subst U;exact keyd _ X (by simp) (by simp) (by simp)
   ·cases O
  ·cases O
 case box ty x =>
  split at O
  ·rename_i X hc;split at O
   ·simp only[VP]at O;subst O;intro p U;rcases WV.1 U with U|U
    ·exact key x (by simp[Op.operands]) (by simp) (by simp) (by simp) _ (mB hc _ (ew U))
    ·simp only[V3]at U;subst U;exact keyd _ X (by simp) (by simp) (by simp)
   ·cases O
  ·cases O
 case load ty x =>
  split at O
  ·intro p U;exact key x (by simp[Op.operands]) (by simp) (by simp) (by simp) _ (Oj O p U)
  ·cases O
 case store ty x y =>
  split at O
  ·intro p U;rcases CW O p U with hh|hh
   ·exact key y (by simp[Op.operands]) (by simp) (by simp) (by simp) _ hh
   ·exact key x (by simp[Op.operands]) (by simp) (by simp) (by simp) _ hh
  ·cases O
 case makeMap ty res =>
  cases res with
  | some _=>cases O
  | none =>
   simp only at O;split at O
   ·rename_i X;unfold k9 at O;split at O
    ·split at O
     ·cases O
     simp only[VP]at O;subst O;intro p U;simp only[V3]at U;subst U;exact keyd _ X (by simp) (by simp) (by simp)
    ·cases O
   ·cases O
 case lookup ty m i ok =>
  split at O
  ·intro p U;rw[CT O]at U;simp at U
  ·cases O
 case mapUpdate ty m i x =>
  split at O
  ·intro p U;rcases lh O p U with hh|hh
   ·exact key x (by simp[Op.operands]) (by simp) (by simp) (by simp) _ hh
   ·exact key m (by simp[Op.operands]) (by simp) (by simp) (by simp) _ hh
  ·cases O
 case insert ty m i x =>
  split at O
  ·intro p U;rcases lh O p U with hh|hh
   ·exact key x (by simp[Op.operands]) (by simp) (by simp) (by simp) _ hh
   ·exact key m (by simp[Op.operands]) (by simp) (by simp) (by simp) _ hh
  ·cases O
 case nilCheck x =>
  cases Y:vs x<;>rw[Y]at O<;>simp only[gh]at O<;>try (cases O;done)
  ·split at O
   ·exact none_ _ O
   ·cases O
  ·exact none_ _ O
 case fieldAddr ty x i =>
  split at O
  ·cases Y:vs x<;>rw[Y]at O<;>simp only[cw]at O<;>try (cases O;done)
   ·split at O
    ·split at O
     ·split at O
      ·split at O
       ·cases O
       ·exact none_ _ O
      ·cases O
     ·cases O
    ·cases O
   ·split at O
    ·split at O
     ·split at O
      ·split at O
       ·cases O
       ·exact none_ _ O
      ·cases O
     ·cases O
    ·cases O
   ·split at O
    ·split at O
     ·split at O
      ·split at O
       ·cases O
       ·exact none_ _ O
      ·cases O
     ·cases O
    ·cases O
  ·cases O
 case field ty x i =>
  split at O
  ·cases Y:vs x<;>rw[Y]at O<;>simp only[ja]at O<;>try (cases O;done)
   split at O
   ·split at O
    ·split at O
     ·split at O
      ·exact none_ _ O
      ·cases O
     ·cases O
    ·cases O
   ·cases O
  ·cases O
 case indexAddr ty x i =>
  split at O
  ·cases Y:vs x<;>cases hi:vs i<;>rw[Y,hi]at O<;>simp only[aU]at O<;>try (cases O;done)
   all_goals
    split at O
    ·split at O
     ·split at O
      ·exact none_ _ O
      ·cases O
     ·cases O
    ·cases O
  ·cases O
 case index ty x i =>
  split at O
  ·cases Y:vs x<;>cases hi:vs i<;>rw[Y,hi]at O<;>simp only[eh]at O<;>try (cases O;done)
   ·split at O
    ·split at O
     ·split at O
      ·exact none_ _ O
      ·cases O
     ·cases O
    ·cases O
   ·split at O
    ·split at O
     ·split at O
      ·split at O
       ·exact none_ _ O
       ·cases O
      ·cases O
     ·cases O
    ·cases O
  ·cases O
 case slice ty x lo hi mx =>
  split at O
  ·unfold bJ at O;split at O
   ·split at O
    ·exact none_ _ O
    ·cases O
   ·split at O
    ·split at O
     ·split at O
      ·exact none_ _ O
      ·split at O
       ·split at O
        ·exact none_ _ O
        ·cases O
       ·cases O
     ·cases O
    ·cases O
   ·split at O
    ·split at O
     ·split at O
      ·exact none_ _ O
      ·cases O
     ·cases O
    ·cases O
   ·cases O
  ·cases O
 case build ty parts =>
  split at O
  ·intro p U;obtain⟨q,hq,Y⟩:=CR O p U;obtain⟨y,hy,rfl⟩:=VF.1 hq;exact key y.2 (by simp only[Op.operands,List.toList_toArray];exact VF.2 ⟨y,hy,rfl⟩) (by simp) (by simp) (by simp) _ Y
  ·cases O
 case buildSlice ty len parts =>
  split at O
  ·rename_i X;unfold cv at O;split at O
   ·split at O
    ·split at O
     ·split at O
      ·rename_i hf;split at O
       ·simp only[VP]at O;subst O;intro p U;rcases WV.1 U with U|U
        ·obtain⟨q,hq,Y⟩:=oQ hf _ (ew U);obtain⟨y,hy,rfl⟩:=VF.1 hq;exact key y.2 (by simp only[Op.operands,List.toList_toArray];exact VF.2 ⟨y,hy,rfl⟩) (by simp) (by simp) (by simp) _ Y
        ·simp only[V3]at U;subst U;exact keyd _ X (by simp) (by simp) (by simp)
       ·cases O
      ·cases O
     ·cases O
    ·cases O
   ·cases O
  ·cases O
 case makeSlice ty l c =>
  split at O
  ·rename_i X;unfold lV at O;split at O
   ·split at O
    ·split at O
     ·simp only[VP]at O;subst O;intro p U;simp only[V3]at U;subst U;exact keyd _ X (by simp) (by simp) (by simp)
     ·cases O
    ·cases O
   ·cases O
  ·cases O
 case binOp op ty x y ak =>
  split at O
  ·exact none_ _ O
  ·cases O
 case unOp op ty x =>
  split at O
  ·exact none_ _ O
  ·cases O
 case makeFunc fn first caps =>
  split at O
  ·split at O
   ·exact none_ _ O
   ·cases O
  ·cases O
 case convert s d x =>
  split at O
  ·split at O
   ·exact none_ _ O
   ·cases O
  ·cases O
 case extract x i =>
  split at O
  ·split at O
   ·exact none_ _ O
   ·cases O
  ·cases O
 case call c =>
  cases hc:c.callee with
  | invoke _ _=>rw[hc]at O;cases O
  | value f =>
   rw[hc]at O;simp only at O;have Z:∀d∈c.args.toList.map vs,∀x∈nm d,x∈ej o vs:=by
    intro d X x Y;obtain⟨y,hy,rfl⟩:=VF.1 X;exact key y (by simp only[Op.operands,Call.operands,WZ];exact VV _ hy) (by simp) (by simp) (by simp) _ Y
   have aa:∀d,o.dst=some d->d∈ej o vs:=fun d X=>keyd d X (by simp) (by simp) (by simp);have ai:∀x∈nm (vs f),x∈ej o vs:=key f (by simp[Op.operands,Call.operands,hc]) (by simp) (by simp) (by simp);generalize c.args.toList.map vs=ds at *;unfold eV at O;split at O
   ·split at O
    ·intro p U;rcases D5 O p U with hh|⟨d,X,Y⟩
     ·exact aa _ hh
     ·exact Z d X _ Y
    split at O
    ·intro p U;obtain⟨d,X,Y⟩:=D1 O p U;exact Z d X _ Y
    split at O
    ·split at O
     ·intro p U;rcases oE O p U with hh|hh|⟨d,X,Y⟩
      ·exact aa _ hh
      ·exact Z _ Xb _ (by rw[hh];simp[nm,ey])
      ·exact Z d (Xc _ X) _ Y
     ·intro p U;rcases oE O p U with hh|hh|⟨d,X,Y⟩
      ·exact aa _ hh
      ·exact Z _ Xb _ (by rw[hh];simp[nm,ey])
      ·exact Z d (Xc _ X) _ Y
     ·intro p U;rcases oE O p U with hh|hh|⟨d,X,Y⟩
      ·exact aa _ hh
      ·exact Z _ Xb _ (by rw[hh];simp[nm,ey])
      ·exact Z d (Xc _ X) _ Y
     ·cases O
    ·intro p U;rcases uc O p U with hh|⟨d,X,Y⟩
     ·exact aa _ hh
     ·exact Z d X _ Y
   ·rename_i g kk caps aj;split at O
    ·rename_i ae;rw[VR]at ae;have ab:∀d∈caps,∀x∈nm d,x∈ej o vs:=fun d X x Y=>by
      have:=ae d X;rw[KS (fun f kk xs he=>by rw[he]at this;cases this)]at Y;exact ai _ (by rw[aj];exact W9.2 ⟨d,X,Y⟩)
     intro p U;rcases uc O p U with hh|⟨d,X,Y⟩
     ·exact aa _ hh
     ·rcases WV.1 X with X|X
      ·exact ab d (Wq X) _ Y
      ·rcases WV.1 X with X|X
       ·exact Z d X _ Y
       ·exact ab d (Wo X) _ Y
    ·cases O
   ·cases O
  | builtin b =>
   rw[hc]at O;simp only at O;unfold bu at O;split at O
   ·split at O
    ·split at O
     ·split at O
      ·exact none_ _ O
      ·exact none_ _ O
      ·exact none_ _ O
      ·cases O
     ·split at O
      ·exact none_ _ O
      ·cases O
     ·cases O
    ·cases O
   ·rename_i s x ad;obtain⟨ps,px,hl,rfl,rfl⟩:=KO ad;split at O
    ·split at O
     ·rename_i X;intro p U;rcases vl O p U with h1|h1
      ·rw[h1];exact keyd _ X (by simp) (by simp) (by simp)
      ·exact key ps (by simp only[Op.operands,Call.operands,WZ];exact VV _ (by rw[hl];simp)) (by simp) (by simp) (by simp) _ h1
     ·cases O
    ·cases O
   ·split at O
    ·exact none_ _ O
    ·cases O
   ·split at O
    ·exact none_ _ O
    ·cases O
   ·cases O
end
theorem cR {h h':Nat->Option Row} {k:Nat} (hk:h (rt k)=h' (rt k)):EH h k=EH h' k:=by
 unfold EH;unfold rt at hk;split
 ·rename_i O;rw[if_pos O]at hk;rw[hk]
 ·rename_i O;rw[if_neg O]at hk;rw[hk]
theorem b7:PK=1000000:=rfl
theorem dO (x o:Nat):2*PK<=NK x o:=by unfold NK;rw[b7];omega
theorem mW {x:Nat} (o:Nat) (O:x<PK):NK x o % PK=x:=by
 unfold NK;rw[Nat.mul_add_mod];exact WB O
theorem vU {x:Nat} (o:Nat) (O:x<PK):NK x o / PK-2=o:=by
 unfold NK;rw[Nat.mul_add_div (by rw[b7];decide),X2 O];omega
theorem DL {k:Nat} (hk:2*PK<=k):k=NK (k % PK) (k / PK-2):=by
 unfold NK;have h1:2<=k / PK:=by
  rw[Nat.le_div_iff_mul_le (by rw[b7];decide)];exact hk
 have h2:k / PK-2+2=k / PK:=by omega
 rw[h2];exact (XH k PK).symm
theorem Bq (k:Nat):k % PK<PK:=Wz _ (by rw[b7];decide)
theorem oc {x o:Nat} (O:x<PK):rt (NK x o)=x:=by
 unfold rt;rw[if_neg (by have:=dO x o;omega),mW o O]
theorem fj {k:Nat} (hk:k<2*PK):rt k=k:=if_pos hk
theorem nV {h:Nat->Option Row} {x o:Nat} (O:x<PK):EH h (NK x o)=(h x).bind fun r=>lY r o:=by
 unfold EH;rw[if_neg (by have:=dO x o;omega),mW o O,vU o O]
theorem mz {h:Nat->Option Row} {k:Nat} (hk:k<2*PK):EH h k=(h k).map (vG k):=if_pos hk
theorem TP (y:Nat) (r:Row):(vG y r).v=r.v∧(vG y r).ty=r.ty∧(vG y r).fz=r.fz∧(vG y r).lst=r.lst∧(vG y r).mp=r.mp:=by
 unfold vG;split<;>exact⟨rfl,rfl,rfl,rfl,rfl⟩
def SY (d O:D):Prop:=O=d∨((∃x s n,d=.ph x s n)∧O=.und)
def Jr (r r':Row):Prop:=r'=r∨(r.mp=true∧∃cs,r' = { r with cells:=cs }∧cs.length=r.cells.length∧∀(j:Nat) d O,r.cells[j]? = some d->cs[j]? = some O->SY d O)∨(r.mp=false∧∃k,r' = { r with cells:=r.cells.take k })
def vI (h h':Nat->Option Row):Prop:=∀k r',h' k=some r'->∃r,h k=some r∧Jr r r'
theorem Jr.refl (r:Row):Jr r r := .inl rfl
theorem vI.refl (h:Nat->Option Row):vI h h:=fun k r' hk=>⟨r',hk,.refl _⟩
theorem SY.trans {a b c:D} (h:SY a b) (k:SY b c):SY a c:=by
 rcases h with rfl|⟨h1,rfl⟩
 ·exact k
 ·rcases k with rfl|⟨⟨_,_,_,h2⟩,_⟩
  ·exact .inr ⟨h1,rfl⟩
  ·cases h2
theorem Jr.trans {a b c:Row} (h:Jr a b) (k:Jr b c):Jr a c:=by
 rcases h with rfl|⟨h1,cs,rfl,h2,h3⟩|⟨h1,n,rfl⟩
 ·exact k
 ·rcases k with rfl|⟨O,cs',rfl,Y,Z⟩|⟨O,_⟩
  ·exact .inr (.inl ⟨h1,cs,rfl,h2,h3⟩)
  ·refine .inr (.inl ⟨h1,cs',rfl,Y.trans h2,fun j d d' hd U =>?_⟩);have X:j<cs.length:=by
    have:=(V9.1 U).1;simp only at Y;omega
   exact (h3 j d _ hd (VT X)).trans (Z j _ d' (VT X) U)
  ·simp only at O;rw[h1]at O;cases O
 ·rcases k with rfl|⟨O,_⟩|⟨_,m,rfl⟩
  ·exact .inr (.inr ⟨h1,n,rfl⟩)
  ·simp only at O;rw[h1]at O;cases O
  ·exact .inr (.inr ⟨h1,min m n,by simp[List.take_take]⟩)
theorem vI.trans {a b c:Nat->Option Row} (h:vI a b) (k:vI b c):vI a c:=fun x r O=>by
 obtain⟨U,h1,h2⟩:=k x r O;obtain⟨X,h3,h4⟩:=h x U h1;exact⟨X,h3,h4.trans h2⟩
theorem vI.bj {a b:Nat->Option Row} (h:vI a b) (x:Nat) (r:Option Row):vI (bj a x r) (bj b x r):=fun y r' O=>by
 by_cases U:y=x
 ·subst U;rw[aj]at O ⊢;exact⟨r',O,.refl _⟩
 ·rw[al _ _ U]at O ⊢;exact h y r' O
theorem vI.apply:∀(l:List (Nat×Option Row)) {a b:Nat->Option Row},vI a b->vI (ay a l) (ay b l)
 | [],_,_,h=>h
 | (x,r)::l,_,_,h=>vI.apply l (h.bj x r)
theorem Jr.same {r r':Row} (h:Jr r r'):r'.v=r.v∧r'.ty=r.ty∧r'.fz=r.fz∧r'.lst=r.lst∧r'.mp=r.mp:=by
 rcases h with rfl|⟨_,cs,rfl,_⟩|⟨_,k,rfl⟩<;>exact⟨rfl,rfl,rfl,rfl,rfl⟩
theorem Jr.nil {r r':Row} (h:Jr r r') (O:r.cells=[]):r'.cells=[]:=by
 rcases h with rfl|⟨_,cs,rfl,h2,_⟩|⟨_,k,rfl⟩
 ·exact O
 ·rw[O]at h2;exact WY h2
 ·simp[O]
theorem Jr.cell {r r':Row} (h:Jr r r') {j:Nat} {X:D} (O:r'.cells[j]? = some X) (Y:X ≠ .und):r.cells[j]? = some X:=by
 rcases h with rfl|⟨_,cs,rfl,h2,h3⟩|⟨_,k,rfl⟩
 ·exact O
 ·have U:j<r.cells.length:=by
   have:=(V9.1 O).1;simp only at this;omega
  rcases h3 j _ X (VT U) O with rfl|⟨_,rfl⟩
  ·exact VT U
  ·exact absurd rfl Y
 ·simp only[VW]at O;split at O
  ·exact O
  ·cases O
theorem cr.le {w:World} {M:Nat->Prop} {g:Nat×Nat} {r r':Row} (h:cr w M g r) (hl:Jr r r'):cr w M g r':=by
 rcases hl with rfl|⟨h1,cs,rfl,h2,h3⟩|⟨h1,k,rfl⟩
 ·exact h
 rotate_left
 ·unfold cr at h ⊢;simp only[h1]at h ⊢;obtain⟨arr,U,k2,k3⟩:=h;refine⟨arr,U,by simp only[VZ];omega,fun j d Z =>?_⟩;simp only[VW]at Z;split at Z
  ·exact k3 j d Z
  ·cases Z
 ·unfold cr at h ⊢;simp only[h1]at h ⊢;rcases h with⟨ks,vs,U,k2⟩|⟨U,arr,k2,k3,k4⟩
  ·have ad:cs=r.cells:=by
    rw[U]at h2
    match cs,h2 with
    | [O],_ =>
     rcases h3 0 (.mpc ks vs) O (by rw[U];rfl) rfl with rfl|⟨⟨_,_,_,hh⟩,_⟩
     ·exact U.symm
     ·cases hh
   subst ad;exact .inl ⟨ks,vs,U,k2⟩
  ·have aa:∀(j:Nat) (O:D),cs[j]? = some O->∃d,r.cells[j]? = some d∧SY d O:=by
    intro j O hd;have ab:j<r.cells.length:=by
     have:=(V9.1 hd).1;omega
    exact⟨_,VT ab,h3 j _ O (VT ab) hd⟩
   refine .inr ⟨fun O hd =>?_,arr,k2,by simp only;omega,fun j O hd =>?_⟩
   ·obtain⟨j,Z⟩:=V2 hd;obtain⟨d,X,Y⟩:=aa j O Z;rcases Y with rfl|⟨_,rfl⟩
    ·exact U _ (V8 X)
    ·rfl
   ·obtain⟨d,X,Y⟩:=aa j O hd;rcases Y with rfl|⟨_,rfl⟩
    ·exact k4 j _ X
    ·trivial
section
variable {N:Nat} {M:Nat->Prop} {L:fV} {w0:World} {blk:Nat->Option (Nat×Nat)} {V:Nat->Nat->Prop} {t:Nat->D} {h h':Nat->Option Row} {a:Act} {w:World}
theorem tN (X:vI h h') {b:Nat} (U:¬Own M h blk b):¬Own M h' blk b:=by
 rintro (O|⟨x,r',g,Y,Z,hg,he⟩)
 ·exact U (.inl O)
 ·obtain⟨r,h1,h2⟩:=X x r' Y;exact U (.inr ⟨x,r,g,h1,by rw[<- h2.same.2.2.1];exact Z,hg,he⟩)
theorem xM (O:vI h h'):zF w w (Own M h blk) (Own M h' blk) h h' blk blk V V:=⟨fun b h1 h2=>⟨h1,tN O h2,rfl⟩,fun _ _ h=>h,fun x v _ r' h1 h2=>by
 obtain⟨r,U,X⟩:=O x r' h1;exact⟨⟨r,U,by rw[<- X.same.1];exact h2⟩,rfl,fun _ _=>rfl⟩⟩
theorem Inv.le (O:Inv N M L w0 blk V t h a w) (X:vI h h'):Inv N M L w0 blk V t h' a w where
 tab:=O.tab.keep fun b h1 h2=>⟨h1,tN X h2,rfl⟩
 below:=O.below
 mlt:=O.mlt
 lent:=O.lent
 pin go Z:=⟨(O.pin go Z).1,fun r' hr hv=>by
  obtain⟨r,Y,U⟩:=X 0 r' hr;exact (O.pin go Z).2 r Y (by rw[<- U.same.1];exact hv)⟩
 defers:=O.defers
 tsz:=O.tsz
 slots i:=(O.slots i).mono (xM X)
 rows x r' hx:=by
  obtain⟨r,Y,U⟩:=X x r' hx;obtain⟨h1,h2⟩:=O.rows x r Y;refine⟨fun hn=>by rw[U.same.1];exact h1 hn,?_⟩;cases hb:blk x with
  | none =>
   rw[hb]at h2;exact U.nil h2
  | some g =>
   rw[hb]at h2;exact⟨h2.1,(cr.le h2.2 U).keep rfl rfl rfl rfl fun b q1 q2=>⟨q1,tN X q2,rfl⟩⟩
 inj x y r s g g' hx hy Z ab he:=by
  obtain⟨r1,Y,_⟩:=X x r hx;obtain⟨r2,U,_⟩:=X y s hy;exact O.inj x y r1 r2 g g' Y U Z ab he
 big:=O.big
 pha y r' g hy hm Z j x s n hc:=by
  obtain⟨r,Y,U⟩:=X y r' hy;obtain⟨h0,u,q1,q2⟩:=O.pha y r g Y (by rw[<- U.same.2.2.2.2];exact hm) Z j x s n (U.cell hc (by intro h;cases h));exact⟨h0,u,q1,q2.mono fun ad q3=>by
   obtain⟨r2,q4,_⟩:=X x ad q3;exact⟨⟨r2,q4⟩,rfl,fun _ _=>rfl⟩⟩
 ali y r' g hy hz ae Z j c d' hj aa:=by
  obtain⟨r,Y,U⟩:=X y r' hy;obtain⟨u,q1,q2⟩:=O.ali y r g Y (by rw[<- U.same.2.2.1];exact hz) (by rw[<- U.same.2.2.2.1];exact ae) Z j c d' (U.cell hj (by intro h;subst h;cases aa)) aa;exact⟨u,q1,q2.mono (xM X)⟩
theorem aJ.le {e:Nat} {dst:Option Nat} {E:aR} {v:Value} (U:aJ N M L w0 V t h a e dst E v w) (O:vI (ay h E.hw) h') :
  ∃blk',Inv N M L w0 blk' (fun x n=>V x n∨(dst=some x∧n=e)) t h' a w∧RT w (Own M h' blk') h' blk' (fun x n=>V x n∨(dst=some x∧n=e)) E.val v:=by
 obtain⟨blk',h1,h2⟩:=U;exact⟨blk',h1.le O,h2.mono (xM O)⟩
end
theorem gm {cs:List D} {o:Nat} {d:D} (h:o<cs.length):(putCells cs o [d]).length=cs.length:=fE (show o+1<=cs.length from h)
theorem dC {cs:List D} {o:Nat} {d:D} (h:o<cs.length):(putCells cs o [d])[o]? = some d:=by
 rw[iM (show o+[d].length<=cs.length from h)];simp
theorem ez {cs:List D} {o j:Nat} {d:D} (h:o<cs.length) (O:j≠o):(putCells cs o [d])[j]? = cs[j]?:=by
 rw[iM (show o+[d].length<=cs.length from h)];split
 ·rfl
 ·rw[if_neg (by simp;omega)]
def x3:Option Row->Option Row
 | some r=>if r.mp then (match r.cells with | [.nr _ _ _ _]=>none|_=>some r) else some r
 | none=>none
def GZ (ty nv:Nat) (fz:Bool):Option Row->D->D
 | some r',.nx n _=>if r'.ty=ty∧r'.v=nv∧r'.fz=fz∧r'.lst=true∧r'.mp=false then .nx n r'.cells else .und
 | none,.nx n _ =>.und
 | _,d=>d
def zt (ty s nv:Nat) (fz:Bool) (cs:List D) (o:Nat) (r:Option Row):Option D->List D
 | some d=>[.nr ty s nv (putCells cs o [GZ ty nv fz r d])]
 | none=>[.nr ty s nv cs]
def yt (o:Nat) (r:Option Row) (q:Row):Row :=
 if q.mp then
  match q.cells with
  | [.nr ty s nv cs]=>{ q with cells:=zt ty s nv q.fz cs o r (cs.drop o).head? }
  | _=>q
 else q
def sM (h:Nat->Option Row) (k:Nat) (r:Option Row):Option Row:=@ite _ (k<2*PK) (UP k (2*PK)) (x3 r) ((h (k % PK)).map (yt (k / PK-2) r))
def gO (h:Nat->Option Row):List (Nat×Option Row)->List (Nat×Option Row)
 | []=>[]
 | (k,r)::l=>(rt k,sM h k r)::gO (bj h (rt k) (sM h k r)) l
theorem tL {r:Option Row} {q:Row} {o:Nat} (h:x3 r=some q):r=some q∧lY q o=none∧∀y,vG y q=q:=by
 unfold x3 at h;split at h
 ·rename_i r0;split at h
  ·rename_i O;split at h
   ·cases h
   ·rename_i U;simp only[VP]at h;subst h;refine⟨rfl,?_,fun y =>?_⟩
    ·unfold lY;rw[if_pos O];unfold Br;split
     ·rename_i X;exact absurd X (U _ _ _ _)
     ·rfl
    ·unfold vG;rw[if_pos O];have:SL y r0.cells=r0.cells:=by
      unfold SL;split
      ·rename_i X;exact absurd X (U _ _ _ _)
      ·rfl
     rw[this]
  ·rename_i O;simp only[VP]at h;subst h;exact⟨rfl,by unfold lY;rw[if_neg O],fun y=>by unfold vG;rw[if_neg O]⟩
 ·cases h
theorem QN (h:Nat->Option Row) (k:Nat) (r:Option Row):vI (bj (EH h) k r) (EH (bj h (rt k) (sM h k r))):=by
 intro z r' O
 by_cases hk:k<2*PK
 ·rw[fj hk]at O;unfold sM at O;rw[if_pos hk]at O
  by_cases aa:z<2*PK
  ·rw[mz aa]at O
   by_cases Y:z=k
   ·subst Y;rw[aj]at O ⊢;rw[VD]at O;obtain⟨q,h1,rfl⟩:=O;obtain⟨h2,_,h3⟩:=tL (o:=0) h1;rw[h3];exact⟨q,h2,.refl _⟩
   ·rw[al _ _ Y]at O ⊢;rw[<- mz aa]at O;exact⟨r',O,.refl _⟩
  ·rw[al _ _ (by omega)];unfold EH at O;rw[if_neg aa]at O
   by_cases Y:z % PK=k
   ·rw[Y,aj]at O;rw[Option.bind_eq_some_iff]at O;obtain⟨q,h1,h2⟩:=O;rw[(tL (o:=z / PK-2) h1).2.1]at h2;cases h2
   ·rw[al _ _ Y]at O;exact⟨r',by unfold EH;rw[if_neg aa];exact O,.refl _⟩
 ·have ad:=DL (Xm hk);have U:=Bq k;generalize k % PK=x at ad U;generalize k / PK-2=o at ad;subst ad;rw[oc U]at O;have ay:sM h (NK x o) r=(h x).map (yt o r):=by
   unfold sM;rw[if_neg hk,mW o U,vU o U]
  rw[ay]at O;cases hx:h x with
  | none =>
   rw[hx]at O;simp only[Option.map_none]at O;have X:EH h z=some r':=by
    rw[<- O];apply cR
    by_cases hzx:rt z=x
    ·rw[hzx,aj,hx]
    ·rw[al _ _ hzx]
   by_cases Y:z=NK x o
   ·subst Y;rw[nV U,hx]at X;cases X
   ·rw[al _ _ Y];exact⟨r',X,.refl _⟩
  | some q =>
   rw[hx]at O;simp only[Option.map_some]at O
   by_cases hzx:rt z=x
   rotate_left
   ·have:EH h z=some r':=by rw[<- O];exact cR (by rw[al _ _ hzx])
    refine⟨r',?_,.refl _⟩;rw[al _ _ (fun e=>hzx (by rw[e,oc U]))];exact this
   by_cases ae:q.mp=true∧∃ty s nv cs,q.cells=[.nr ty s nv cs]
   rotate_left
   ·have hq:yt o r q=q:=by
     unfold yt;split
     ·rename_i Z;split
      ·rename_i ty s nv cs hc;exact absurd ⟨Z,_,_,_,_,hc⟩ ae
      ·rfl
     ·rfl
    rw[hq]at O;have X:EH h z=some r':=by
     rw[<- O];exact cR (by rw[hzx,aj,hx])
    by_cases Y:z=NK x o
    ·subst Y;rw[nV U,hx]at X;simp only[Option.bind_some]at X;unfold lY at X;split at X
     ·rename_i Z;unfold Br at X;split at X
      ·rename_i hc;exact absurd ⟨Z,_,_,_,_,hc⟩ ae
      ·cases X
     ·cases X
    ·rw[al _ _ Y];exact⟨r',X,.refl _⟩
   obtain⟨Z,ty,s,nv,cs,hc⟩:=ae;have hq:yt o r q = { q with cells:=zt ty s nv q.fz cs o r (cs.drop o).head? }:=by
    unfold yt;rw[if_pos Z,hc]
   rw[hq]at O;obtain⟨cs',ao,az⟩:∃cs':List D,zt ty s nv q.fz cs o r (cs.drop o).head? = [.nr ty s nv cs']∧cs'.length=cs.length∧(∀j,j≠o->cs'[j]? = cs[j]?)∧∀d',cs'[o]? = some d'->∃d,cs[o]? = some d∧d'=GZ ty nv q.fz r d:=by
    rw[X9];cases hd:cs[o]? with
    | none=>exact⟨cs,rfl,rfl,fun _ _=>rfl,fun d' ab=>by rw[hd]at ab;cases ab⟩
    | some d =>
     have ah:=(V9.1 hd).1;refine⟨_,rfl,gm ah,fun j hj=>ez ah hj,fun d' ab=>⟨d,rfl,?_⟩⟩;rw[dC ah]at ab;simpa using ab.symm
   rw[ao]at O;obtain⟨hlen,aq,ar⟩:=az
   by_cases aa:z<2*PK
   ·rw[fj aa]at hzx;subst hzx;rw[mz aa,aj]at O;simp only[Option.map_some,VP]at O;subst O;rw[al _ _ (by have:=dO z o;omega),mz aa,hx];refine⟨vG z q,rfl,.inr (.inl ⟨by rw[(TP z q).2.2.2.2,Z],cs'.mapIdx (lM z s),?_,?_,fun j d d' hd ab =>?_⟩)⟩
    ·unfold vG;simp only[Z,if_true,SL]
    ·unfold vG;simp only[Z,if_true,SL,hc,Ya,hlen]
    ·unfold vG at hd;simp only[Z,if_true,SL,hc,Yb,VD]at hd;rw[Yb,VD]at ab;obtain⟨d0,au,rfl⟩:=hd;obtain⟨d1,ai,rfl⟩:=ab
     by_cases av:j=o
     ·subst av;obtain⟨d2,k1,rfl⟩:=ar _ ai;rw[au]at k1;cases k1;cases d0 with
      | nx n xs =>
       cases r with
       | none=>exact .inr ⟨⟨_,_,_,rfl⟩,rfl⟩
       | some r0 =>
        simp only[GZ];split
        ·exact .inl rfl
        ·exact .inr ⟨⟨_,_,_,rfl⟩,rfl⟩
      | _=>cases r<;>exact .inl rfl
     ·rw[aq j av,au]at ai;cases ai;exact .inl rfl
   ·have ak:=DL (Xm aa);have aw:z % PK=x:=by unfold rt at hzx;rwa [if_neg aa]at hzx
    rw[aw]at ak;generalize z / PK-2=oz at ak;subst ak;rw[nV U,aj]at O;simp only[Option.bind_some]at O;unfold lY at O;simp only[Z,if_true,Br,X9]at O
    by_cases ax:oz=o
    ·subst ax;rw[aj];cases hd:cs'[oz]? with
     | none=>rw[hd]at O;cases O
     | some d' =>
      obtain⟨d,k1,rfl⟩:=ar d' hd;rw[hd]at O;cases r with
      | none=>cases d<;>cases O
      | some r0 =>
       cases d with
       | nx n xs =>
        simp only[GZ]at O;split at O
        ·rename_i an;obtain⟨rfl,rfl,h3,h4,h5⟩:=an;simp only[xZ,VP]at O;subst O;refine⟨r0,rfl,.inl ?_⟩;cases r0;simp only at h3 h4 h5 ⊢;rw[h3,h4,h5]
        ·cases O
       | _=>cases O
    ·have aA:NK x oz≠NK x o:=by
      unfold NK;rw[b7];omega
     rw[al _ _ aA,nV U,hx];rw[aq oz ax]at O;refine⟨r',?_,.refl _⟩;simp only[Option.bind_some];unfold lY;simp only[Z,if_true,hc,Br,X9];exact O
theorem Fc:∀(l:List (Nat×Option Row)) (h:Nat->Option Row),vI (ay (EH h) l) (EH (ay h (gO h l)))
 | [],h =>.refl _
 | (k,r)::l,h=>(vI.apply l (QN h k r)).trans (Fc l _)
def bump (nv e:Nat):Option Nat:=if nv<=4*e then some (4*e+1) else if nv=4*e+2 then some (4*e+3) else none
def Ux (r:Row):List D->Option (Row×Nat×Nat×Nat×List D)
 | [.nr ty s nv cs]=>some (r,ty,s,nv,cs)
 | _=>none
def dG (h:Nat->Option Row) (x v:Nat):Option (Row×Nat×Nat×Nat×List D) :=
 match h x with
 | some r=>if r.v=v∧r.fz=false∧r.mp=true∧x<PK then Ux r r.cells else none
 | none=>none
theorem eS {h:Nat->Option Row} {x v:Nat} {r:Row} {ty s nv:Nat} {cs:List D} (O:dG h x v=some (r,ty,s,nv,cs)):h x=some r∧r.v=v∧r.fz=false∧r.mp=true∧x<PK∧r.cells=[.nr ty s nv cs]:=by
 unfold dG at O;split at O
 ·rename_i r0 X;split at O
  ·rename_i Y;obtain⟨c1,c2,Z,c4⟩:=Y;unfold Ux at O;split at O
   ·rename_i U;simp only[VP,Prod.mk.injEq]at O;obtain⟨rfl,rfl,rfl,rfl,rfl⟩:=O;exact⟨X,c1,c2,Z,c4,U⟩
   ·cases O
  ·cases O
 ·cases O
theorem di {d:D} (O:dZ d=true):aF d=true∧UT d=true∧∀ {w:World} {M:Nat->Prop} {u:Value},vV w M d u↔RP w M d u:=by
 cases d<;>first|exact⟨rfl,rfl,Iff.rfl⟩|cases O
def MR:D->D
 | .nx n xs =>.sl false false n xs
 | d=>d
theorem dF {h:Nat->Option Row} {x:Nat} {r:Row} {ty s nv:Nat} {cs:List D} (O:h x=some r) (hm:r.mp=true) (U:r.cells=[.nr ty s nv cs]) (X:x<PK):EH h x=some ⟨r.v,r.ty,cs.mapIdx (lM x s),r.fz,r.lst,true⟩:=by
 rw[mz (by have:=b7;omega),O];simp only[Option.map_some,vG,hm,if_true,U,SL]
theorem cM {h:Nat->Option Row} {x:Nat} {r:Row} {ty s nv:Nat} {cs:List D} (O:h x=some r) (hm:r.mp=true) (U:r.cells=[.nr ty s nv cs]) (X:x<PK) (o:Nat):EH h (NK x o)=xZ ty nv r.fz cs[o]?:=by
 rw[nV X,O];simp only[Option.bind_some,lY,hm,if_true,U,Br,X9]
theorem mV {x x' o o':Nat} (U:x<PK) (O:x'<PK) (h:NK x o=NK x' o'):x=x'∧o=o':=by
 unfold NK at h;rw[b7]at *;omega
def zG (w:World) (blk:Nat->Option (Nat×Nat)) (k s n:Nat) (u:Value):Prop :=
 (∃g c O ty,blk k=some g∧u=.slice (some ⟨g.1,g.2,none⟩) n c∧c*s+g.2=O∧n<=c∧c<=maxLen∧w.shape? g.1=some (ty,O))∨(blk k=none∧n=0∧∃A,u=.slice A 0 0)
section
variable {P:Program} {T:Nat->Option Ty} {N:Nat} {M:Nat->Prop} {L:fV} {w0:World} {blk:Nat->Option (Nat×Nat)} {V:Nat->Nat->Prop} {t:Nat->D} {h:Nat->Option Row} {a:Act} {w:World} {e:Nat} {o:Oper} {Γ:Env}
theorem Inv.uT (hI:Inv N M L w0 blk V t (EH h) a w) {x:Nat} {r:Row} {ty s nv:Nat} {cs:List D} {g:Nat×Nat} (hx:h x=some r) (hm:r.mp=true) (hc:r.cells=[.nr ty s nv cs]) (hp:x<PK) (hg:blk x=some g) :
  ∃arr:Array Value,w.heap[g.1]? = some (.cells arr r.ty (0,0))∧g.2+cs.length<=arr.size∧∀(j:Nat) d,cs[j]? = some d->dZ d=true->RP w (Own M (EH h) blk) d (arr.getD (g.2+j) undef):=by
 have O:=hI.rowIs (dF hx hm hc hp) hg;unfold cr at O;simp only at O;rcases O with⟨ks,vs,U,_⟩|⟨U,arr,k2,Y,k4⟩
 ·exfalso;simp only at U;have hl:cs.length=1:=by
   have:=congrArg List.length U;simpa using this
  match cs,hl with
  | [d],_ =>
   simp only[List.mapIdx_cons,List.mapIdx_nil,V4,and_true]at U;have:=ik x s 0 d;rw[U]at this;cases this
 ·simp only[Ya]at Y;refine⟨arr,k2,Y,fun j d hj Z =>?_⟩;have X:(cs.mapIdx (lM x s))[j]? = some d:=by rw[Yb,hj];exact congrArg some (gw Z)
  exact (di Z).2.2.1 (k4 j _ X)
theorem Inv.yc (hI:Inv N M L w0 blk V t (EH h) a w) {x:Nat} {r:Row} {ty s nv n o:Nat} {cs xs:List D} {g:Nat×Nat} (O:h x=some r) (hm:r.mp=true) (U:r.cells=[.nr ty s nv cs]) (X:x<PK) (hg:blk x=some g) (Y:cs[o]? = some (.nx n xs)) :
  ∃u,w.cell? ⟨g.1,g.2+o,none⟩=some u∧zG w blk (NK x o) s n u:=by
 obtain⟨_,u,h1,h2⟩:=hI.pha x _ g (dF O hm U X) rfl hg o (NK x o) s n (by simp only[Yb,Y,Option.map_some,lM]);have Z:=cM O hm U X o;rw[Y]at Z;exact⟨u,h1,h2 _ Z⟩
def QH:D->D->D
 | .nx n _,.nx _ O =>.nx n O
 | .nx _ _,_ =>.und
 | d,_=>d
def pe (cs cs':List D):List D:=List.zipWith QH cs cs'
theorem nO {x k:Nat} (hk:rt k=x):k=x∨∃o,k=NK x o:=by
 by_cases O:k<2*PK
 ·rw[fj O]at hk;exact .inl hk
 ·have:=DL (Xm O);unfold rt at hk;rw[if_neg O]at hk;rw[hk]at this;exact .inr ⟨_,this⟩
theorem Sy (cs cs':List D) (j:Nat):(pe cs cs')[j]? = match cs[j]?,cs'[j]? with|some d,some O=>some (QH d O)|_,_=>none:=by
 unfold pe;rw[List.getElem?_zipWith];cases cs[j]?<;>cases cs'[j]?<;>rfl
theorem IJ {x:Nat} {r:Row} {ty s nv:Nat} {cs cs':List D} (hx:h x=some r) (hm:r.mp=true) (hc:r.cells=[.nr ty s nv cs]) (hz:r.fz=false) (hp:x<PK) (hlen:cs'.length=cs.length)
  (an:∀(j:Nat) n' O,cs'[j]? = some (.nx n' O)->∃n xs k,cs[j]? = some (.nx n xs)∧O=xs.take k):vI (EH h) (EH (bj h x (some ⟨r.v,r.ty,[.nr ty s nv (pe cs cs')],false,r.lst,true⟩))):=by
 have X:=Sy cs cs';have ao:(pe cs cs').length=cs.length:=by simp[pe,hlen]
 have ab:∀(j:Nat) d,cs[j]? = some d->∃d',cs'[j]? = some d':=by
  intro j d hj;have:=(V9.1 hj).1;exact⟨_,VT (by omega)⟩
 have au:∀(j:Nat) d',cs'[j]? = some d'->∃d,cs[j]? = some d:=by
  intro j d hj;have:=(V9.1 hj).1;exact⟨_,VT (by omega)⟩
 generalize hD:bj h x (some ⟨r.v,r.ty,[.nr ty s nv (pe cs cs')],false,r.lst,true⟩)=hh;have ad:hh x=some ⟨r.v,r.ty,[.nr ty s nv (pe cs cs')],false,r.lst,true⟩:=by rw[<- hD,aj]
 have ae:∀y,y≠x->hh y=h y:=fun y hy=>by rw[<- hD,al _ _ hy]
 have aq:∀ {h1 h2:Nat->Option Row},(∀y,y≠x->h1 y=h2 y)->∀k,rt k≠x->EH h1 k=EH h2 k:=fun he k hk=>cR (he _ hk);have ah:∀k,rt k=x->k=x∨∃o,k=NK x o:=by
  intro k hk
  by_cases Z:k<2*PK
  ·rw[fj Z]at hk;exact .inl hk
  ·have:=DL (Xm Z);unfold rt at hk;rw[if_neg Z]at hk;rw[hk]at this;exact .inr ⟨_,this⟩
 intro k r' hk
 by_cases ai:rt k=x
 rotate_left
 ·exact⟨r',by rw[<- hk];exact aq (fun y hy=>(ae y hy).symm) k ai,.refl _⟩
 rcases ah k ai with rfl|⟨o,rfl⟩
 ·rw[dF ad rfl rfl hp]at hk;simp only[VP]at hk;subst hk;refine⟨_,dF hx hm hc hp,.inr (.inl ⟨rfl,(pe cs cs').mapIdx (lM k s),by rw[hz],by simp[ao],fun j d d' Y U =>?_⟩)⟩;simp only[Yb,VD]at Y U;obtain⟨d0,ak,rfl⟩:=Y;obtain⟨d1,aa,rfl⟩:=U;obtain⟨d2,ar⟩:=ab j d0 ak;rw[X,ak,ar]at aa;simp only[VP]at aa;subst aa;cases d0 with
  | nx n xs =>
   cases d2 with
   | nx n' O=>exact .inl rfl
   | _=>exact .inr ⟨⟨_,_,_,rfl⟩,rfl⟩
  | _=>exact .inl rfl
 ·rw[cM ad rfl rfl hp,X]at hk;cases Y:cs[o]? with
  | none=>rw[Y]at hk;cases hk
  | some d =>
   obtain⟨d',U⟩:=ab o d Y;rw[Y,U]at hk;cases d with
   | nx n xs =>
    cases d' with
    | nx n' O =>
     obtain⟨n0,av,k,e1,e2⟩:=an o n' O U;rw[Y]at e1;cases e1;simp only[QH,xZ,VP]at hk;subst hk;refine⟨_,by rw[cM hx hm hc hp,Y];rfl,.inr (.inr ⟨rfl,k,by rw[e2,hz]⟩)⟩
    | _=>cases hk
   | _=>cases hk
theorem Inv.zt (hI:Inv N M L w0 blk V t (EH h) a w) {x:Nat} {r:Row} {ty s nv:Nat} {cs cs':List D} (hx:h x=some r) (hm:r.mp=true) (hc:r.cells=[.nr ty s nv cs]) (hz:r.fz=false) (hp:x<PK) (hlen:cs'.length=cs.length) {w':World}
  (ax:w'.os=w.os) (aa:w'.tape=w.tape) (ah:w'.output=w.output) (ab:w.heap.size<=w'.heap.size) (ad:∀b,b<w.heap.size->(∀g,blk x=some g->b≠g.1)->w'.heap[b]? = w.heap[b]?)
  (ai:∀(j:Nat) n' O,cs'[j]? = some (.nx n' O)->∃n xs k,cs[j]? = some (.nx n xs)∧O=xs.take k)
  (X:∀g,blk x=some g->w'.shape? g.1=w.shape? g.1∧∃arr:Array Value,w'.heap[g.1]? = some (.cells arr r.ty (0,0))∧g.2+cs.length<=arr.size∧∀(j:Nat) d,cs'[j]? = some d ->
   (dZ d=true->RP w' (Own M (EH (bj h x (some ⟨r.v,r.ty,[.nr ty s nv (pe cs cs')],false,r.lst,true⟩))) blk) d (arr.getD (g.2+j) undef))∧∀n' O,d=.nx n' O->zG w blk (NK x j) s n' (arr.getD (g.2+j) undef)) :
  Inv N M L w0 blk V t (EH (bj h x (some ⟨r.v,r.ty,[.nr ty s nv cs'],false,r.lst,true⟩))) a w':=by
 have ak:∀(j:Nat),(pe cs cs')[j]? = match cs[j]?,cs'[j]? with|some d,some d'=>some (QH d d')|_,_=>none:=by
  intro j;unfold pe;rw[List.getElem?_zipWith];cases cs[j]?<;>cases cs'[j]?<;>rfl
 have aA:(pe cs cs').length=cs.length:=by simp[pe,hlen]
 have aB:∀(j:Nat) d,cs[j]? = some d->∃d',cs'[j]? = some d':=by
  intro j d U;have:=(V9.1 U).1;exact⟨_,VT (by omega)⟩
 have an:∀(j:Nat) d',cs'[j]? = some d'->∃d,cs[j]? = some d:=by
  intro j d U;have:=(V9.1 U).1;exact⟨_,VT (by omega)⟩
 generalize hD:bj h x (some ⟨r.v,r.ty,[.nr ty s nv (pe cs cs')],false,r.lst,true⟩)=hh at X;have ao:hh x=some ⟨r.v,r.ty,[.nr ty s nv (pe cs cs')],false,r.lst,true⟩:=by rw[<- hD,aj]
 have aq:∀y,y≠x->hh y=h y:=fun y hy=>by rw[<- hD,al _ _ hy]
 have ay:∀ {h1 h2:Nat->Option Row},(∀y,y≠x->h1 y=h2 y)->∀k,rt k≠x->EH h1 k=EH h2 k:=fun he k hk=>cR (he _ hk);have ar:∀k,rt k=x->k=x∨∃o,k=NK x o:=by
  intro k hk
  by_cases ae:k<2*PK
  ·rw[fj ae]at hk;exact .inl hk
  ·have:=DL (Xm ae);unfold rt at hk;rw[if_neg ae]at hk;rw[hk]at this;exact .inr ⟨_,this⟩
 have hle:vI (EH h) (EH hh):=by rw[<- hD];exact IJ hx hm hc hz hp hlen ai
 have hA:=hI.le hle;have hB:=hA.gY (x:=x) (r:=⟨r.v,r.ty,(pe cs cs').mapIdx (lM x s),false,r.lst,true⟩) (r0:=⟨r.v,r.ty,cs'.mapIdx (lM x s),false,r.lst,true⟩) (w':=w') (dF ao rfl rfl hp) rfl rfl ax aa ah ab ad (by
   cases hb:blk x with
   | none =>
    have:=(hI.rows x _ (dF hx hm hc hp)).2;rw[hb]at this;have h1:cs.mapIdx (lM x s)=[]:=this;have h2:cs.length=0:=by
     have:=congrArg List.length h1;simpa using this
    show cs'.mapIdx (lM x s)=[];rw[WY (hlen.trans h2)];rfl
   | some g =>
    obtain⟨k1,arr,k2,k3,k4⟩:=X g hb;refine⟨k1,.inr ⟨fun d hd =>?_,arr,k2,by simp only[Ya];omega,fun j d U =>?_⟩⟩
    ·obtain⟨j,U⟩:=V2 hd;simp only[Yb,VD]at U;obtain⟨d0,Y,rfl⟩:=U;exact ik _ _ _ _
    ·simp only[Yb,VD]at U;obtain⟨d0,Y,rfl⟩:=U
     by_cases Z:dZ d0=true
     ·rw[gw Z];exact (di Z).2.2.2 ((k4 j d0 Y).1 Z)
     ·cases d0<;>first|trivial|exact absurd rfl Z) (fun h=>by cases h) (fun _ g hg j x' s' n' U=>by
   obtain⟨k1,arr,k2,k3,k4⟩:=X g hg;simp only[Yb,VD]at U;obtain⟨d0,Y,he⟩:=U;obtain⟨az,rfl,rfl,rfl⟩:=lH he;have aC:=(V9.1 Y).1;exact⟨⟨hp,.inr rfl⟩,_,aL k2 (by omega),fun _ _=>(k4 j _ Y).2 n' az rfl⟩)
 have au:bj (EH hh) x (some (⟨r.v,r.ty,cs'.mapIdx (lM x s),false,r.lst,true⟩:Row))=EH (bj h x (some ⟨r.v,r.ty,[.nr ty s nv cs'],false,r.lst,true⟩)):=by
  have av:bj h x (some (⟨r.v,r.ty,[.nr ty s nv cs'],false,r.lst,true⟩:Row)) x=some ⟨r.v,r.ty,[.nr ty s nv cs'],false,r.lst,true⟩:=aj _ _ _;funext k
  by_cases hkx:rt k=x
  rotate_left
  ·rw[al _ _ (fun e=>hkx (by rw[e,fj (by have:=b7;omega)]))];exact ay (fun y hy=>by rw[aq y hy,al _ _ hy]) k hkx
  rcases ar k hkx with rfl|⟨o,rfl⟩
  ·rw[aj,dF av rfl rfl hp]
  ·rw[al _ _ (by have:=dO x o;have:=b7;omega),cM ao rfl rfl hp,cM av rfl rfl hp,ak];cases aw:cs'[o]? with
   | none=>cases cs[o]?<;>rfl
   | some d' =>
    obtain⟨d,hd⟩:=an o d' aw;rw[hd];cases d' with
    | nx n' O =>
     obtain⟨n0,aD,k,e1,_⟩:=ai o n' O aw;rw[hd]at e1;cases e1;rfl
    | _=>cases d<;>rfl
 rw[<- au];exact hB
theorem Inv.TD (X:Inv N M L w0 blk V t h a w) (S:Nat->Prop) (nv:Nat) (hS:∀k,S k->N<=k∧k≠0∧¬V k nv) {h':Nat->Option Row} (he:∀k,S k->h' k=(h k).map fun r=>{ r with v:=nv }) (ad:∀k,¬S k->h' k=h k):Inv N M L w0 blk V t h' a w:=by
 have hf:∀x r',h' x=some r'->∃r,h x=some r∧r' = { r with v:=r'.v }∧(¬S x->r'=r)∧(S x->r'.v=nv):=by
  intro x r' Z
  by_cases hs:S x
  ·rw[he x hs,VD]at Z;obtain⟨r,h1,rfl⟩:=Z;exact⟨r,h1,rfl,fun hn=>absurd hs hn,fun _=>rfl⟩
  ·rw[ad x hs]at Z;exact⟨r',Z,rfl,fun _=>rfl,fun h=>absurd h hs⟩
 have O:∀ {r r':Row},r' = { r with v:=r'.v }->r'.ty=r.ty∧r'.cells=r.cells∧r'.fz=r.fz∧r'.lst=r.lst∧r'.mp=r.mp:=by
  intro r r' h;rw[h];exact⟨rfl,rfl,rfl,rfl,rfl⟩
 have ho:∀b,¬Own M h blk b->¬Own M h' blk b:=by
  intro b hb aa;rcases aa with aa|⟨x,r',g,Z,hz,hg,e⟩
  ·exact hb (.inl aa)
  ·obtain⟨r,h1,h2,_⟩:=hf x r' Z;exact hb (.inr ⟨x,r,g,h1,by rw[<- (O h2).2.2.1];exact hz,hg,e⟩)
 have ab:zF w w (Own M h blk) (Own M h' blk) h h' blk blk V V:=⟨fun b h1 h2=>⟨h1,ho b h2,rfl⟩,fun _ _ h=>h,fun x v hv r' h1 h2=>by
  obtain⟨r,Y,U,k3,k4⟩:=hf x r' h1
  by_cases hs:S x
  ·rw[k4 hs]at h2;subst h2;exact absurd hv (hS x hs).2.2
  ·obtain rfl:=k3 hs;exact⟨⟨r',Y,h2⟩,rfl,fun _ _=>rfl⟩⟩
 exact {
  tab:=X.tab.keep fun b h1 h2=>⟨h1,ho b h2,rfl⟩
  below:=X.below
  mlt:=X.mlt
  lent:=X.lent
  pin:=fun go hg=>⟨(X.pin go hg).1,fun r' hr hv=>by
   obtain⟨r,Y,U,k3,k4⟩:=hf 0 r' hr;obtain rfl:=k3 (fun hs=>(hS 0 hs).2.1 rfl);exact (X.pin go hg).2 r' Y hv⟩
  defers:=X.defers
  tsz:=X.tsz
  slots:=fun i=>(X.slots i).mono ab
  rows:=fun x r' Z=>by
   obtain⟨r,Y,U,k3,k4⟩:=hf x r' Z;obtain⟨h1,h2⟩:=X.rows x r Y;refine⟨fun hn =>?_,?_⟩
   ·obtain rfl:=k3 (fun hs=>by have:=(hS x hs).1;omega);exact h1 hn
   ·cases hb:blk x with
    | none=>rw[hb]at h2;exact (O U).2.1.trans h2
    | some g =>
     rw[hb]at h2;exact⟨h2.1,h2.2.keep (O U).2.1 (O U).1 (O U).2.2.2.2 rfl fun b q1 q2=>⟨q1,ho b q2,rfl⟩⟩
  inj:=fun x y r s g g' Z hy hg ae e=>by
   obtain⟨r1,Y,_⟩:=hf x r Z;obtain⟨r2,U,_⟩:=hf y s hy;exact X.inj x y r1 r2 g g' Y U hg ae e
  big:=X.big
  pha:=fun y r' g hy hm hg j x s n hc=>by
   obtain⟨r,Y,U,_⟩:=hf y r' hy;obtain⟨h0,u,q1,q2⟩:=X.pha y r g Y (by rw[<- (O U).2.2.2.2];exact hm) hg j x s n (by rw[<- (O U).2.1];exact hc);exact⟨h0,u,q1,q2.mono fun ah q3=>by
    obtain⟨r2,q4,_⟩:=hf x ah q3;exact⟨⟨r2,q4⟩,rfl,fun _ _=>rfl⟩⟩
  ali:=fun y r' g hy hz ai hg j c d' hj aj=>by
   obtain⟨r,Y,U,_⟩:=hf y r' hy;obtain⟨u,q1,q2⟩:=X.ali y r g Y (by rw[<- (O U).2.2.1];exact hz) (by rw[<- (O U).2.2.2.1];exact ai) hg j c d' (by rw[<- (O U).2.1];exact hj) aj;exact⟨u,q1,q2.mono ab⟩ }
end
def xN (τ:Ty) (x s nv o:Nat) (cs:List D):Option D->Option aR
 | some (.nx n xs)=>if τ.size=1∧τ.ds.ko=false then some ⟨.buf (NK x o) nv s 0 n,[]⟩ else none
 | some _=>if o+τ.size<=cs.length∧((cs.drop o).take τ.size).all dZ=true then (match gP τ ((cs.drop o).take τ.size) with|some d=>some ⟨d,[]⟩|none=>none) else none
 | none=>none
def kX (τ:Ty) (h:Nat->Option Row):D->Option aR
 | .ptr x v o =>
  match dG h x v with
  | some (r,ty,s,nv,cs)=>xN τ x s nv o cs (cs.drop o).head?
  | none=>none
 | _=>none
def tS (x:Nat) (r:Row) (ty s nv:Nat) (cs:List D) (o n:Nat):Option D->Option aR
 | some (.nx O xs)=>if n*s<=xs.length then some ⟨.und,[(x,some ⟨r.v,r.ty,[.nr ty s nv (putCells cs o [.nx n (xs.take (n*s))])],false,r.lst,true⟩)]⟩ else none
 | _=>none
def tT (x:Nat) (r:Row) (ty s:Nat) (cs:List D) (o y n:Nat) (q:Row):Option Nat->Option aR
 | some O=>some ⟨.und,[(y,none),(x,some ⟨r.v,r.ty,[.nr ty s O (putCells cs o [.nx n q.cells])],false,r.lst,true⟩)]⟩
 | none=>none
def RQ:D->Option (List D)
 | .agg xs=>some xs
 | .int k n=>some [.int k n]
 | .bool b=>some [.bool b]
 | .str s=>some [.str s]
 | .sl a b n xs=>some [.sl a b n xs]
 | _=>none
def tU (τ:Ty) (x:Nat) (r:Row) (ty s nv:Nat) (cs:List D) (o:Nat):Option (List D)->Option aR
 | some O=>if O.length=τ.size∧O.all dZ=true then some ⟨.und,[(x,some ⟨r.v,r.ty,[.nr ty s nv (putCells cs o (O.map canon))],false,r.lst,true⟩)]⟩ else none
 | none=>none
def qy (τ:Ty) (e:Nat) (h:Nat->Option Row) (x:Nat) (r:Row) (ty s nv:Nat) (cs:List D) (o:Nat):D->Option aR
 | .buf y O U X n =>
  if τ.size=1∧U=s∧X=0 then
   if y=NK x o then (if O=nv then tS x r ty s nv cs o n (cs.drop o).head? else none)
   else if y<PK then
    match live h y O with
    | some q=>if q.fz=false∧q.lst=true∧q.ty=ty∧q.cells.length=n*s then tT x r ty s cs o y n q (bump nv e) else none
    | none=>none
   else none
  else none
 | d=>tU τ x r ty s nv cs o (RQ d)
def jA (τ:Ty) (e:Nat) (h:Nat->Option Row) (p d:D):Option aR :=
 match p with
 | .ptr x v o =>
  match dG h x v with
  | some (r,ty,s,nv,cs)=>if o+τ.size<=cs.length∧0<τ.size then qy τ e h x r ty s nv cs o d else none
  | none=>none
 | _=>none
section
variable {P:Program} {T:Nat->Option Ty} {N:Nat} {M:Nat->Prop} {L:fV} {w0:World} {blk:Nat->Option (Nat×Nat)} {V:Nat->Nat->Prop} {t:Nat->D} {h:Nat->Option Row} {a:Act} {w:World} {e:Nat} {o:Oper} {Γ:Env}
def jv (N:Nat) (M:Nat->Prop) (L:fV) (w0:World) (V:Nat->Nat->Prop) (t:Nat->D) (h:Nat->Option Row) (a:Act) (e:Nat) (dst:Option Nat) (E:aR) (v:Value) (w':World):Prop :=
 ∃blk',Inv N M L w0 blk' (fun x n=>V x n∨(dst=some x∧n=e)) t (EH (ay h E.hw)) a w' ∧
  RT w' (Own M (EH (ay h E.hw)) blk') (EH (ay h E.hw)) blk' (fun x n=>V x n∨(dst=some x∧n=e)) E.val v
def U7 (V:Nat->Nat->Prop) (h:Nat->Option Row):Prop:=∀x r ty s nv cs,h x=some r->r.mp=true->r.cells=[.nr ty s nv cs]->x<PK->∀o,V (NK x o) nv
theorem N4 (hT:fb P T) (hI:Inv N M L w0 blk V t (EH h) a w) (ae:U7 V h) {ty:Nat} {p:Operand} {τ:Ty} {E:aR} (ho:o.op=.load ty p) (hτ:T ty=some τ) (O:kX τ h (ev t p)=some E):db P o a w (jv N M L w0 V t h a e o.dst E):=by
 have hp:=hI.ev p;generalize ev t p=q at *;unfold kX at O;split at O<;>try (cases O;done)
 rename_i x v c;split at O<;>try (cases O;done)
 rename_i r ah s nv cs hl;obtain⟨hx,hv,hz,hm,X,hc⟩:=eS hl;have ai:=dF hx hm hc X;obtain⟨g,hg,aa⟩:=hp.2 _ ai hv;rw[X9]at O;unfold xN at O;split at O
 ·rename_i n xs hn;split at O<;>try (cases O;done)
  rename_i U;obtain⟨c1,c2⟩:=U;simp only[VP]at O;subst O;obtain⟨u,h1,h2⟩:=hI.yc hx hm hc X hg hn;have Z:=gL (hT ty τ hτ) w g.1 (g.2+c) [u] (by simpa using c1.symm) (fun j v Y=>by
   cases j with
   | zero=>simp only[List.getElem?_cons_zero,VP]at Y;subst Y;simpa using h1
   | succ j=>simp at Y) (fun _=>rfl)
  rw[c2]at Z;refine av (v:=u) (w':=w) ?_ ?_
  ·simp[execOp,ho,Instr.loadAt,Instr.sureAddr,aa,Z]
  ·refine aJ.ct (h:=EH h) hI ⟨ae x r ah s nv cs hx hm hc X c,fun r' k1 k2 =>?_⟩;rcases h2 with⟨g',c',N',t',q1,rfl,q3,q4,q5,q6⟩|⟨q1,rfl,q3⟩
   ·exact .inl ⟨g',g'.2,c',N',t',q1,rfl,fun _=>⟨rfl,q3⟩,q4,q5,q6⟩
   ·exact .inr ⟨q1,rfl,q3⟩
 ·rename_i d0 ak al;split at O<;>try (cases O;done)
  rename_i U;obtain⟨c1,c2⟩:=U;split at O<;>try (cases O;done)
  rename_i d hd;simp only[VP]at O;subst O;have aj:At w (Own M (EH h) blk) g.1 (g.2+c) ((cs.drop c).take τ.size):=by
   intro j d1 Y;have ab:=VR.1 c2 d1 (V8 Y);have ad:cs[c+j]? = some d1:=by
    rw[VW]at Y;split at Y
    ·rwa [VX]at Y
    ·cases Y
   obtain⟨arr,k1,k2,k3⟩:=hI.uT hx hm hc X hg;have an:=(V9.1 ad).1;refine⟨(di ab).1,_,?_,k3 _ _ ad ab⟩;rw[V1];exact aL k1 (by omega)
  exact lU hT hI ho hτ aa aj (by simp;omega) hd
 ·cases O
theorem w3 (hT:fb P T) (hI:Inv N M L w0 blk V t (EH h) a w) {ty y c aa s nv:Nat} {p x:Operand} {τ:Ty} {r:Row} {cs cs':List D} {us:List Value} {g:Nat×Nat} (ho:o.op=.store ty p x) (hτ:T ty=some τ)
  (hx:h y=some r) (hm:r.mp=true) (hc:r.cells=[.nr aa s nv cs]) (hz:r.fz=false) (O:y<PK) (hg:blk y=some g) (aq:a.eval p=.pointer (some ⟨g.1,g.2+c,none⟩)) (ad:(a.eval x).cells.toList=us) (ar:us.length=τ.size) (hle:c+τ.size<=cs.length) (h1:∀u∈us,u.oneCell'=true)
  (hlen:cs'.length=cs.length) (ae:∀(j:Nat) n' U,cs'[j]? = some (.nx n' U)->∃n xs k,cs[j]? = some (.nx n xs)∧U=xs.take k) (ah:∀j,(j<c∨c+τ.size<=j)->cs'[j]? = cs[j]?)
  (au:∀(j:Nat) d,j<τ.size->cs'[c+j]? = some d->(dZ d=true->RP w (Own M (EH h) blk) d (us.getD j undef))∧∀n' U,d=.nx n' U->zG w blk (NK y (c+j)) s n' (us.getD j undef)) :
  db P o a w (jv N M L w0 V t h a e o.dst ⟨.und,[(y,some ⟨r.v,r.ty,[.nr aa s nv cs'],false,r.lst,true⟩)]⟩):=by
 obtain⟨arr,k1,k2,k3⟩:=hI.uT hx hm hc O hg;have X:=run_storeCells_at P g.1 (g.2+c) r.ty us 0 arr w k1 (by omega) h1;rw[Wf]at X;have ai:(arr.toList.take (g.2+c)++us++arr.toList.drop (g.2+c+us.length)).toArray.size=arr.size:=by simp;omega
 have Y:∀j,j<cs.length->(arr.toList.take (g.2+c)++us++arr.toList.drop (g.2+c+us.length)).toArray.getD (g.2+j) undef=if j<c then arr.getD (g.2+j) undef else if j<c+us.length then us.getD (j-c) undef else arr.getD (g.2+j) undef:=by
  intro j hj;rw[ma arr us (g.2+c) (g.2+j) (by omega)]
  by_cases aj:j<c
  ·rw[if_pos (by omega),if_pos aj]
  ·rw[if_neg (by omega),if_neg aj]
   by_cases ak:j<c+us.length
   ·rw[if_pos (by omega),if_pos ak];congr 1;omega
   ·rw[if_neg (by omega),if_neg ak]
 generalize aA:(arr.toList.take (g.2+c)++us++arr.toList.drop (g.2+c+us.length)).toArray=arr' at X ai Y;have Z:(w.setRow g.1 arr').heap[g.1]? = some (.cells arr' r.ty (0,0)):=setRow_heap w g.1 arr arr' r.ty (0,0) k1;have al:(w.setRow g.1 arr').heap.size=w.heap.size:=by simp[World.setRow]
 have hheap:∀b,b≠g.1->(w.setRow g.1 arr').heap[b]? = w.heap[b]?:=by
  intro b hb;simp only[World.setRow,VQ];rw[if_neg (Ne.symm hb)]
 have an:Own M (EH h) blk g.1 := .inr ⟨y,_,g,dF hx hm hc O,hz,hg,rfl⟩;have av:=IJ hx hm hc hz O hlen ae;have hkeep:∀ {d:D} {u:Value},RP w (Own M (EH h) blk) d u->RP (w.setRow g.1 arr') (Own M (EH (bj h y (some ⟨r.v,r.ty,[.nr aa s nv (pe cs cs')],false,r.lst,true⟩))) blk) d u:=fun hr=>hr.keep fun b q1 q2=>⟨by rw[al];exact q1,tN av q2,hheap b (fun e=>q2 (e ▸ an))⟩;have hS:=hI.zt (cs':=cs') (w':=w.setRow g.1 arr') hx hm hc hz O hlen rfl rfl rfl (by rw[al];exact VG _) (fun b _ hb=>hheap b (hb g hg)) ae (fun g' ao=>by
  rw[hg]at ao;cases ao;refine⟨by simp[World.shape?,Z,k1,ai],arr',Z,by omega,fun j d hj =>?_⟩;have aw:j<cs.length:=by
   have:=(V9.1 hj).1;omega
  rw[Y j aw]
  by_cases az:c<=j∧j<c+τ.size
  ·rw[if_neg (by omega),if_pos (by omega)];obtain⟨i,rfl⟩:∃i,j=c+i:=⟨j-c,by omega⟩;rw[W2];obtain⟨q1,q2⟩:=au i d (by omega) hj;exact⟨fun hd=>hkeep (q1 hd),q2⟩
  ·have ax:(if j<c then arr.getD (g.2+j) undef else if j<c+us.length then us.getD (j-c) undef else arr.getD (g.2+j) undef)=arr.getD (g.2+j) undef:=by
    split
    ·rfl
    ·rw[if_neg (by omega)]
   rw[ax];rw[ah j (by omega)]at hj;refine⟨fun hd=>hkeep (k3 j d hj hd),fun n' U he =>?_⟩;subst he;obtain⟨u,q1,q2⟩:=hI.yc hx hm hc O hg hj;rw[aL k1 (by omega)]at q1;cases q1;exact q2)
 refine .inr (.inl ⟨w.setRow g.1 arr',?_,blk,?_,trivial⟩)
 ·have ay:(a.eval x).cells.size=τ.size:=by rw[<- ar,<- ad];simp
  have ab:(storeCells ⟨g.1,g.2+c,none⟩ (a.eval x).cells.toList 0).run P w=.ok () (w.setRow g.1 arr'):=by rw[ad];exact X
  simp[execOp,ho,Instr.storeAt,Instr.sureAddr,aq,storeVar,run_sizeOf (hT ty τ hτ),ay,ab]
 ·exact hS.weaken fun _ _ h =>.inl h
theorem sQ {g:Nat×Nat} {arr arr':Array Value} {ty:Nat} (O:w.heap[g.1]? = some (.cells arr ty (0,0))):(w.setRow g.1 arr').heap[g.1]? = some (.cells arr' ty (0,0))∧(w.setRow g.1 arr').heap.size=w.heap.size∧∀b,b≠g.1->(w.setRow g.1 arr').heap[b]? = w.heap[b]?:=by
 refine⟨setRow_heap w g.1 arr arr' ty (0,0) O,by simp[World.setRow],fun b U =>?_⟩;simp only[World.setRow,VQ];rw[if_neg (Ne.symm U)]
theorem Inv.U3 (hI:Inv N M L w0 blk V t (EH h) a w) {y c Z s nv:Nat} {r:Row} {cs:List D} (hx:h y=some r) (hm:r.mp=true) (hc:r.cells=[.nr Z s nv cs]) (hz:r.fz=false) (X:y<PK) (hle:c<cs.length) :
  Inv N M L w0 blk V t (EH (bj h y (some ⟨r.v,r.ty,[.nr Z s nv (putCells cs c [.und])],false,r.lst,true⟩))) a w:=by
 have O:∀(j:Nat) d,(putCells cs c [.und])[j]? = some d->d=.und∨cs[j]? = some d:=by
  intro j d Y
  by_cases aa:j=c
  ·subst aa;rw[dC hle]at Y;cases Y;exact .inl rfl
  ·rw[ez hle aa]at Y;exact .inr Y
 have ab:∀(j:Nat) n' U,(putCells cs c [.und])[j]? = some (.nx n' U)->∃n xs k,cs[j]? = some (.nx n xs)∧U=xs.take k:=by
  intro j n' U Y;rcases O j _ Y with h|h
  ·cases h
  ·exact⟨n',U,U.length,h,by simp⟩
 refine hI.zt hx hm hc hz X (gm hle) rfl rfl rfl (VG _) (fun _ _ _=>rfl) ab (fun g hg =>?_);obtain⟨arr,k1,k2,k3⟩:=hI.uT hx hm hc X hg;refine⟨rfl,arr,k1,k2,fun j d Y=>⟨fun hd =>?_,fun n' U he =>?_⟩⟩
 ·rcases O j d Y with h|h
  ·subst h;cases hd
  ·exact (k3 j d h hd).keep fun b q1 q2=>⟨q1,tN (IJ hx hm hc hz X (gm hle) ab) q2,rfl⟩
 ·subst he;rcases O j _ Y with h|h
  ·cases h
  ·obtain⟨u,q1,q2⟩:=hI.yc hx hm hc X hg h;have ad:=(V9.1 h).1;rw[aL k1 (by omega)]at q1;cases q1;exact q2
theorem EP (hT:fb P T) (hI:Inv N M L w0 blk V t (EH h) a w) {ty y c aa s nv ab Y n:Nat} {p x:Operand} {τ:Ty} {r q:Row} {cs:List D} {u':Value} {g:Nat×Nat} (ho:o.op=.store ty p x) (hτ:T ty=some τ) (c1:τ.size=1)
  (hx:h y=some r) (hm:r.mp=true) (hc:r.cells=[.nr aa s nv cs]) (hz:r.fz=false) (O:y<PK) (hg:blk y=some g) (aS:a.eval p=.pointer (some ⟨g.1,g.2+c,none⟩)) (hle:c<cs.length)
  (aA:h Y=some q) (hyp:Y<PK) (aG:q.fz=false) (aZ:q.lst=true) (ar:q.mp=false) (aT:q.ty=aa) (hu:(a.eval x).cells = #[u']) (aH:u'.oneCell'=true) (aI:zG w blk Y s n u') (hV:∀o,¬V (NK y o) ab) :
  db P o a w (jv N M L w0 V t h a e o.dst ⟨.und,[(Y,none),(y,some ⟨r.v,r.ty,[.nr aa s ab (putCells cs c [.nx n q.cells])],false,r.lst,true⟩)]⟩):=by
 have a1:=b7;have aY:=hI.big;have ai:Y≠y:=by
  rintro rfl;rw[aA]at hx;cases hx;rw[ar]at hm;cases hm
 have hK:∀o,NK y o≠y∧NK y o≠Y∧2*PK<=NK y o:=fun o=>by have:=dO y o;omega
 obtain⟨arr,k1,k2,k3⟩:=hI.uT hx hm hc O hg;have ak:=run_storeCells_at P g.1 (g.2+c) r.ty [u'] 0 arr w k1 (by simp;omega) (fun v hv=>by
  simp only[V3]at hv;subst hv;exact aH)
 rw[Wf]at ak;have aJ:(arr.toList.take (g.2+c)++[u']++arr.toList.drop (g.2+c+[u'].length)).toArray.size=arr.size:=by simp;omega
 have ad:∀j,j<cs.length->(arr.toList.take (g.2+c)++[u']++arr.toList.drop (g.2+c+[u'].length)).toArray.getD (g.2+j) undef=if j=c then u' else arr.getD (g.2+j) undef:=by
  intro j hj;rw[ma arr [u'] (g.2+c) (g.2+j) (by simp;omega)]
  by_cases X:j=c
  ·subst X;rw[if_neg (by omega),if_pos (by simp),if_pos rfl];simp
  ·rw[if_neg X]
   by_cases a6:j<c
   ·rw[if_pos (by omega)]
   ·rw[if_neg (by omega),if_neg (by simp;omega)]
 generalize a7:(arr.toList.take (g.2+c)++[u']++arr.toList.drop (g.2+c+[u'].length)).toArray=arr' at ak aJ ad;obtain⟨ae,aK,hheap⟩:=sQ (g:=g) (arr':=arr') k1;have hA:=hI.U3 hx hm hc hz O hle;have hB:=hA.TD (fun k=>∃o,k=NK y o) ab (fun k hk=>by
  obtain⟨o,rfl⟩:=hk;exact⟨by have:=hK o;omega,by have:=hK o;omega,hV o⟩) (h':=EH (bj h y (some ⟨r.v,r.ty,[.nr aa s ab (putCells cs c [.und])],false,r.lst,true⟩))) (fun k hk=>by
  obtain⟨o,rfl⟩:=hk;rw[cM (aj _ _ _) rfl rfl O,cM (aj _ _ _) rfl rfl O];cases (putCells cs c [D.und])[o]? with
  | none=>rfl
  | some d=>cases d<;>rfl) (fun k hk=>by
  by_cases hky:rt k=y
  ·rcases nO hky with rfl|h
   ·rw[dF (aj _ _ _) rfl rfl O,dF (aj _ _ _) rfl rfl O]
   ·exact absurd h hk
  ·exact cR (by rw[al _ _ hky,al _ _ hky]))
 generalize aM:bj h y (some (⟨r.v,r.ty,[.nr aa s ab (putCells cs c [.und])],false,r.lst,true⟩:Row))=h2 at hB;have aB:h2 y=some ⟨r.v,r.ty,[.nr aa s ab (putCells cs c [.und])],false,r.lst,true⟩:=by rw[<- aM,aj]
 have an:∀z,z≠y->h2 z=h z:=fun z hz=>by rw[<- aM,al _ _ hz]
 have au:EH h2 Y=some q:=by
  rw[mz (by omega),an _ ai,aA];simp only[Option.map_some,vG,ar];rfl
 have ao:=(hB.rows Y q au).2;have aC:∀b,Own M (forget (EH h2) (some Y)) blk b->Own M (EH h2) blk b:=fun b hb=>by
  rcases hb with hb|⟨z,r',g',hz,aU,aV,aW⟩
  ·exact .inl hb
  ·simp only[forget]at hz
   by_cases aN:z=Y
   ·subst aN;rw[aj]at hz;cases hz
   ·rw[al _ _ aN]at hz;exact .inr ⟨z,r',g',hz,aU,aV,aW⟩
 have hC:=hB.Nh (w':=w) (h1:=forget (EH h2) (some Y)) (old:=some Y) (d:=NK y c) (r0:=⟨ab,aa,q.cells,false,true,false⟩) (go:=blk Y) rfl rfl rfl (VG _) (fun _ _ _=>rfl) (fun y' Z=>by cases Z;exact⟨q,au,aG⟩) rfl (by have:=hK c;omega) (by have:=hK c;omega) (hV c)
  (fun y' r' j s' n' Z aX aq=>by
   simp only[forget]at Z
   by_cases ax:y'=Y
   ·subst ax;rw[aj]at Z;cases Z
   rw[al _ _ ax]at Z;have hrow:=(hB.rows y' r' Z).2;cases hb:blk y' with
   | none =>
    rw[hb]at hrow;rw[show r'.cells=[] from hrow]at aq;cases aq
   | some g' =>
    obtain⟨⟨q1,q2⟩,_⟩:=hB.pha y' r' g' Z aX hb j _ s' n' aq;rcases q2 with q2|q2
    ·have:=hK c;omega
    ·obtain⟨rfl,rfl⟩:=mV O q1 q2;rw[dF aB rfl rfl O]at Z;simp only[VP]at Z;subst Z;simp only[Yb,dC hle,Option.map_some,VP]at aq;cases aq) (by
  cases hb:blk Y with
  | none=>rw[hb]at ao;exact ao
  | some g' =>
   obtain⟨az,m1,m2,m3⟩:=hB.xQ au hb ar;refine⟨.inr ⟨Y,g',rfl,hb,rfl⟩,az,by rw[<- aT];exact m1,m2,fun j d hj=>⟨(m3 j d hj).1,(m3 j d hj).2.keep fun b q1 q2=>⟨q1,?_,rfl⟩⟩⟩;rintro (hn|rfl)
   ·exact q2 (aC b hn)
   ·exact q2 (.inr ⟨Y,q,g',au,aG,hb,rfl⟩)) rfl
 generalize aD:bj (forget (EH h2) (some Y)) (NK y c) (some (⟨ab,aa,q.cells,false,true,false⟩:Row))=aO at hC;have av:aO y=some ⟨r.v,r.ty,(putCells cs c [.und]).mapIdx (lM y s),false,r.lst,true⟩:=by
  rw[<- aD,al _ _ (Ne.symm (hK c).1)];simp only[forget];rw[al _ _ (Ne.symm ai)];exact dF aB rfl rfl O
 have ah:bj blk (NK y c) (blk Y) y=some g:=by rw[al _ _ (Ne.symm (hK c).1),hg]
 have aE:(putCells cs c [D.nx n q.cells]).length=cs.length:=gm hle;have hD:=hC.gY (r0:=⟨r.v,r.ty,(putCells cs c [.nx n q.cells]).mapIdx (lM y s),false,r.lst,true⟩) (w':=w.setRow g.1 arr') av rfl rfl rfl rfl rfl (by rw[aK];exact VG _) (fun b _ hb=>hheap b (hb g ah)) (by
  rw[ah];refine⟨by simp[World.shape?,ae,k1,aJ],?_⟩;have aF:=hC.rowIs av ah;unfold cr at aF ⊢;simp only at aF ⊢;rcases aF with⟨ks,vs,m1,_⟩|⟨m1,az,m2,m3,m4⟩
  ·exfalso;have:=congrArg List.length m1;simp only[Ya,gm hle,List.length_singleton]at this;have h0:c=0:=by omega
   subst h0;have aP:=congrArg (fun l:List D=>l[0]?) m1;simp only[Yb,dC hle,Option.map_some,List.getElem?_cons_zero,VP]at aP;cases aP
  ·rw[k1]at m2;simp only[VP,Obj.cells.injEq]at m2;obtain⟨rfl,-⟩:=m2;refine .inr ⟨fun d hd =>?_,arr',ae,by simp only[Ya,aE];omega,fun j d hj =>?_⟩
   ·obtain⟨j,hj⟩:=V2 hd;simp only[Yb,VD]at hj;obtain⟨d0,U,rfl⟩:=hj;exact ik _ _ _ _
   ·simp only[Yb,VD]at hj;obtain⟨d0,U,rfl⟩:=hj;have aw:j<cs.length:=by
     have:=(V9.1 U).1;omega
    rw[ad j aw]
    by_cases X:j=c
    ·subst X;rw[dC hle]at U;cases U;trivial
    ·rw[if_neg X];rw[ez hle X]at U;have:=m4 j (lM y s j d0) (by rw[Yb,ez hle X,U];rfl);exact this.keep fun b q1 q2=>⟨by rw[aK];exact q1,q2,hheap b (fun e=>q2 (.inr ⟨y,_,g,av,rfl,ah,e.symm⟩))⟩) (fun h=>by cases h) (fun _ g' aQ j x' s' n' hj=>by
  rw[ah]at aQ;cases aQ;simp only[Yb,VD]at hj;obtain⟨d0,U,he⟩:=hj;have aw:j<cs.length:=by
   have:=(V9.1 U).1;omega
  by_cases X:j=c
  ·subst X;rw[dC hle]at U;simp only[VP]at U;subst U;simp only[lM,D.ph.injEq]at he;obtain⟨rfl,rfl,rfl⟩:=he;refine⟨⟨O,.inr rfl⟩,u',by rw[aL ae (by omega),ad j aw,if_pos rfl],fun r' _ =>?_⟩;rw[aj];exact aI
  ·rw[ez hle X]at U;obtain⟨q1,u,q2,q3⟩:=hC.pha y _ g av rfl ah j x' s' n' (by rw[Yb,ez hle X,U,<- he];rfl);refine⟨q1,u,?_,q3⟩;rw[aL k1 (by omega)]at q2;rw[aL ae (by omega),ad j aw,if_neg X,q2])
 have aR:bj aO y (some (⟨r.v,r.ty,(putCells cs c [.nx n q.cells]).mapIdx (lM y s),false,r.lst,true⟩:Row))=EH (ay h [(Y,none),(y,some ⟨r.v,r.ty,[.nr aa s ab (putCells cs c [.nx n q.cells])],false,r.lst,true⟩)]):=by
  simp only[ay];funext k
  by_cases hky:rt k=y
  ·rcases nO hky with rfl|⟨o',rfl⟩
   ·rw[aj,dF (aj _ _ _) rfl rfl O]
   ·rw[al _ _ (hK o').1,cM (aj _ _ _) rfl rfl O,<- aD]
    by_cases hoc:o'=c
    ·subst hoc;rw[aj,dC hle];rfl
    ·rw[al _ _ (fun e=>hoc (mV O O e).2)];simp only[forget];rw[al _ _ (hK o').2.1,cM aB rfl rfl O,ez hle hoc,ez hle hoc]
  ·rw[al _ _ (fun e=>hky (by rw[e,fj (by omega)])),<- aD,al _ _ (fun e=>hky (by rw[e,oc O]))];simp only[forget]
   by_cases hk1:rt k=Y
   ·rcases nO hk1 with rfl|⟨o',rfl⟩
    ·rw[aj,mz (by omega),al _ _ ai,aj];rfl
    ·rw[al _ _ (by have:=dO Y o';omega),nV hyp,nV hyp,an _ ai,aA,al _ _ ai,aj];simp only[Option.bind_some,Option.bind_none,lY,ar];rfl
   ·rw[al _ _ (fun e=>hk1 (by rw[e,fj (by omega)]))];exact cR (by rw[an _ hky,al _ _ hky,al _ _ hk1])
 refine .inr (.inl ⟨w.setRow g.1 arr',?_,bj blk (NK y c) (blk Y),?_,trivial⟩)
 ·simp[execOp,ho,Instr.storeAt,Instr.sureAddr,aS,storeVar,run_sizeOf (hT ty τ hτ),c1,hu,ak]
 ·show Inv _ _ _ _ _ _ _ (EH (ay h _)) _ _;rw[<- aR];exact hD.weaken fun _ _ h =>.inl h
def Qg (V:Nat->Nat->Prop) (h:Nat->Option Row) (e:Nat):Prop:=∀x r ty s nv cs O,h x=some r->r.mp=true->r.cells=[.nr ty s nv cs]->x<PK->bump nv e=some O->∀o,¬V (NK x o) O
theorem SH {M':Nat->Prop} {d:D} {U:List D} {u:Value} (O:RQ d=some U) (hd:U.all dZ=true) (Y:RT w M' h blk V d u):u.cells.toList.length=U.length∧∀(j:Nat) x,U[j]? = some x->dZ x=true∧RP w M' (canon x) (u.cells.toList.getD j undef):=by
 have Z:∀x∈U,dZ x=true:=VR.1 hd;have one:∀(d0:D),U=[d0]->RP w M' d0 u->u.cells.toList.length=U.length∧∀(j:Nat) x,U[j]? = some x->dZ x=true∧RP w M' (canon x) (u.cells.toList.getD j undef):=by
  intro d0 he aa;subst he;have ab:=Z d0 (by simp);have hu:=aa.cells (di ab).1;rw[hu];refine⟨rfl,fun j x X =>?_⟩;cases j with
  | zero=>simp only[List.getElem?_cons_zero,VP]at X;subst X;exact⟨ab,aa.canon⟩
  | succ j=>simp at X
 cases d with
 | agg xs =>
  simp only[RQ,VP]at O;subst O;have ad:RP w M' (.agg xs) u:=Y;cases ad with
  | agg xs us h1 h2 h3 =>
   have ae:(Value.agg us.toArray).cells.toList=us:=by simp[Value.cells]
   rw[ae];exact⟨h1,fun j x X=>⟨Z x (V8 X),(h2 j x X).canon⟩⟩
 | int k n=>simp only[RQ,VP]at O;exact one _ O.symm Y
 | bool b=>simp only[RQ,VP]at O;exact one _ O.symm Y
 | str s=>simp only[RQ,VP]at O;exact one _ O.symm Y
 | sl a b n xs=>simp only[RQ,VP]at O;exact one _ O.symm Y
 | _=>cases O
theorem N9 (hT:fb P T) (hI:Inv N M L w0 blk V t (EH h) a w) (au:Qg V h e) {ty:Nat} {p x:Operand} {τ:Ty} {E:aR} (ho:o.op=.store ty p x) (hτ:T ty=some τ) (O:jA τ e h (ev t p) (ev t x)=some E):db P o a w (jv N M L w0 V t h a e o.dst E):=by
 have hp:=hI.ev p;have hq:=hI.ev x;generalize ev t p=pd at *;generalize ev t x=d at *;unfold jA at O;split at O<;>try (cases O;done)
 rename_i y v c;split at O<;>try (cases O;done)
 rename_i r ah s nv cs hl;obtain⟨hx,hv,hz,hm,aa,hc⟩:=eS hl;have av:=dF hx hm hc aa;obtain⟨g,hg,ai⟩:=hp.2 _ av hv;split at O<;>try (cases O;done)
 rename_i U;obtain⟨hle,aH⟩:=U;have plain:tU τ y r ah s nv cs c (RQ d)=some E->db P o a w (jv N M L w0 V t h a e o.dst E):=by
  intro O;unfold tU at O;split at O<;>try (cases O;done)
  rename_i c' aw;split at O<;>try (cases O;done)
  rename_i U;obtain⟨d1,d2⟩:=U;simp only[VP]at O;subst O;obtain⟨u1,u2⟩:=SH aw d2 hq;have aJ:(c'.map canon).length=τ.size:=by rw[Wa];exact d1
  have Z:c+(c'.map canon).length<=cs.length:=by omega
  refine w3 hT hI ho hτ hx hm hc hz aa hg ai rfl (u1.trans d1) hle (fun u hu =>?_) (fE Z) (fun j n' Y X =>?_) (fun j X =>?_) (fun j d0 X ab =>?_)
  ·obtain⟨j,X⟩:=V2 hu;have aK:=(V9.1 X).1;obtain⟨q1,q2⟩:=u2 j _ (VT (by omega));have e1:(a.eval x).cells.toList.getD j undef=u:=by simp only[Wj,X,Option.getD_some]
   rw[e1]at q2;exact q2.nH (by rw[jj];exact (di q1).1)
  ·rw[iM Z]at X;split at X
   ·exact⟨n',Y,Y.length,X,by simp⟩
   ·split at X
    ·rw[VC,VD]at X;obtain⟨x0,h1,h2⟩:=X;have:=(u2 _ x0 h1).1;cases x0<;>first|(cases h2;done)|(cases this;done)
    ·exact⟨n',Y,Y.length,X,by simp⟩
  ·rw[iM Z]
   by_cases h1:j<c
   ·rw[if_pos h1]
   ·rw[if_neg h1,if_neg (by omega)]
  ·rw[iM Z,if_neg (by omega),if_pos (by omega),W2,VC,VD]at ab;obtain⟨x0,h1,rfl⟩:=ab;obtain⟨q1,q2⟩:=u2 j x0 h1;refine⟨fun _=>q2,fun n' Y he =>?_⟩;cases x0<;>first|(cases he;done)|(cases q1;done)
 unfold qy at O;split at O
 ·rename_i z vz s' oz n;split at O<;>try (cases O;done)
  rename_i U;obtain⟨c1,rfl,rfl⟩:=U;have ak:∀ {k:Nat} {q:Row},EH h z=some q->q.v=vz->zG w blk z s' n (a.eval x):=by
   intro k q ax ay;rcases hq.2 q ax ay with⟨g',o',c',N',t',k0,k1,k2,k3,k4,k5⟩|⟨k0,k1,A,k2⟩
   ·obtain⟨k6,k7⟩:=k2 (.inr rfl);rw[Wf]at k6;subst k6;exact .inl ⟨g',c',N',t',k0,k1,k7,k3,k4,k5⟩
   ·exact .inr ⟨k0,k1,A,k2⟩
  have al:∀ {B:zG w blk z s' n (a.eval x)},(a.eval x).cells = #[a.eval x]∧(a.eval x).oneCell'=true:=by
   intro B;rcases B with⟨g',c',N',t',k0,k1,_⟩|⟨k0,k1,A,k2⟩
   ·rw[k1];exact⟨rfl,rfl⟩
   ·rw[k2];exact⟨rfl,rfl⟩
  split at O
  ·rename_i az;subst az;split at O<;>try (cases O;done)
   rename_i aA;subst aA;rw[X9]at O;unfold tS at O;split at O<;>try (cases O;done)
   rename_i n0 xs hn;split at O<;>try (cases O;done)
   rename_i aI;simp only[VP]at O;subst O;have aB:EH h (NK y c)=some ⟨vz,ah,xs,r.fz,true,false⟩:=by rw[cM hx hm hc aa,hn];rfl
   have hH:=ak (k:=0) aB rfl;obtain⟨aj,ad⟩:=al (B:=hH);have ae:=(V9.1 hn).1;refine w3 hT hI ho hτ hx hm hc hz aa hg ai (us:=[a.eval x]) (by rw[aj]) (by simpa using c1.symm) hle (fun u hu=>by simp only[V3]at hu;subst hu;exact ad) (gm ae) (fun j n' Y X =>?_) (fun j X=>ez ae (by omega)) (fun j d0 X ab =>?_)
   ·by_cases an:j=c
    ·subst an;rw[dC ae]at X;simp only[VP,D.nx.injEq]at X;obtain⟨rfl,rfl⟩:=X;exact⟨n0,xs,_,hn,rfl⟩
    ·rw[ez ae an]at X;exact⟨n',Y,Y.length,X,by simp⟩
   ·obtain rfl:j=0:=by omega
    rw[Wf,dC ae]at ab;simp only[VP]at ab;subst ab;refine⟨fun hd=>(by cases hd),fun n' Y he =>?_⟩;simp only[D.nx.injEq]at he;obtain⟨rfl,rfl⟩:=he;exact hH
  ·split at O<;>try (cases O;done)
   rename_i aC;split at O<;>try (cases O;done)
   rename_i q ao;split at O<;>try (cases O;done)
   rename_i aD;obtain⟨q1,q2,q3,q4⟩:=aD;obtain⟨aq,aE⟩:=bg ao;have ar:=eG ao;unfold tT at O;split at O<;>try (cases O;done)
   rename_i aF hb;simp only[VP]at O;subst O;have aG:EH h z=some q:=by
    rw[mz (by omega),aq];simp only[Option.map_some,vG,ar];rfl
   have hH:=ak (k:=0) aG aE;obtain⟨aj,ad⟩:=al (B:=hH);exact EP hT hI ho hτ c1 hx hm hc hz aa hg ai (by omega) aq aC q1 q2 ar q3 aj ad hH (au y r ah s' nv cs aF hx hm hc aa hb)
 ·exact plain O
end
def QL:Option D->Bool
 | some (.sl true true 0 [])=>true
 | _=>false
def ju (φ:Ty) (f:Nat):List D:=putCells ((φ.zero.map jR).map canon) f [.nx 0 []]
def SC (T:Nat->Option Ty) (τ:Ty) (e d O s f:Nat) (l c:D):Option aR :=
 match τ.ds with
 | .slice el =>
  match T el,lv l,lv c with
  | some φ,some l,some c =>
   if l<=c∧c<=maxLen∧c*φ.bytes<=140737488355328∧0<φ.size∧(φ.zero.map jR).all dZ=true∧φ.zero.length=φ.size∧d<PK∧QL ((φ.zero.map jR).drop f).head? = true then
    some ⟨.buf d e φ.size 0 l,[(d,some ⟨e,el,[.nr O s (4*e+2) (jK l (ju φ f))],false,true,true⟩)]⟩
   else none
  | _,_,_=>none
 | _=>none
def SA (τ:Ty) (ty e d O s f:Nat):Option aR :=
 if 0<τ.size∧(τ.zero.map jR).all dZ=true∧τ.zero.length=τ.size∧d<PK∧QL ((τ.zero.map jR).drop f).head? = true then
  some ⟨.ptr d e 0,[(d,some ⟨e,ty,[.nr O s (4*e+2) (ju τ f)],false,false,true⟩)]⟩
 else none
def er (T:Nat->Option Ty) (Γ:Env) (e:Nat) (o:Oper) (vs:Operand->D):Option aR :=
 match o.op with
 | .makeSlice ty l c =>
  match o.dst with
  | some d =>
   match Γ.nst d with
   | some (O,s,f)=>match T ty with|some τ=>SC T τ e d O s f (vs l) (vs c)|none=>none
   | none=>none
  | none=>none
 | .alloc ty =>
  match o.dst with
  | some d =>
   match Γ.nst d with
   | some (O,s,f)=>match T ty with|some τ=>SA τ ty e d O s f|none=>none
   | none=>none
  | none=>none
 | _=>none
section
variable {P:Program} {T:Nat->Option Ty} {N:Nat} {M:Nat->Prop} {L:fV} {w0:World} {blk:Nat->Option (Nat×Nat)} {V:Nat->Nat->Prop} {t:Nat->D} {h:Nat->Option Row} {a:Act} {w:World} {e:Nat} {o:Oper} {Γ:Env}
theorem Inv.addEmpty (X:Inv N M L w0 blk V t h a w) (S:Nat->Prop) (ty nv:Nat) (hS:∀k,S k->N<=k∧k≠0∧¬V k nv∧h k=none) {h':Nat->Option Row} {blk':Nat->Option (Nat×Nat)} (he:∀k,S k->h' k=some ⟨nv,ty,[],false,true,false⟩∧blk' k=none) (aa:∀k,¬S k->h' k=h k∧blk' k=blk k)
  (ai:∀y r g,h y=some r->r.mp=true->blk y=some g->∀j x s n:Nat,r.cells[j]? = some (D.ph x s n)->S x->∃u,w.cell? ⟨g.1,g.2+j,none⟩=some u∧n=0∧∃A,u=.slice A 0 0):Inv N M L w0 blk' V t h' a w:=by
 have hf:∀x r',h' x=some r'->(S x∧r'=⟨nv,ty,[],false,true,false⟩∧blk' x=none)∨(¬S x∧h x=some r'∧blk' x=blk x):=by
  intro x r' Z
  by_cases hs:S x
  ·rw[(he x hs).1]at Z;exact .inl ⟨hs,by simpa using Z.symm,(he x hs).2⟩
  ·rw[(aa x hs).1]at Z;exact .inr ⟨hs,Z,(aa x hs).2⟩
 have ho:∀b,¬Own M h blk b->¬Own M h' blk' b:=by
  intro b hb ab;rcases ab with ab|⟨x,r',g,Z,hz,U,e⟩
  ·exact hb (.inl ab)
  ·rcases hf x r' Z with⟨_,_,O⟩|⟨_,Y,O⟩
   ·rw[O]at U;cases U
   ·exact hb (.inr ⟨x,r',g,Y,hz,O ▸ U,e⟩)
 have ae:zF w w (Own M h blk) (Own M h' blk') h h' blk blk' V V:=⟨fun b h1 h2=>⟨h1,ho b h2,rfl⟩,fun _ _ h=>h,fun x v hv r' h1 h2=>by
  rcases hf x r' h1 with⟨k1,rfl,_⟩|⟨_,Y,O⟩
  ·simp only at h2;subst h2;exact absurd hv (hS x k1).2.2.1
  ·exact⟨⟨r',Y,h2⟩,O,fun _ _=>rfl⟩⟩
 exact {
  tab:=X.tab.keep fun b h1 h2=>⟨h1,ho b h2,rfl⟩
  below:=X.below
  mlt:=X.mlt
  lent:=X.lent
  pin:=fun go U=>⟨(X.pin go U).1,fun r' hr hv=>by
   rcases hf 0 r' hr with⟨k1,_⟩|⟨_,Y,O⟩
   ·exact absurd rfl (hS 0 k1).2.1
   ·rw[O];exact (X.pin go U).2 r' Y hv⟩
  defers:=X.defers
  tsz:=X.tsz
  slots:=fun i=>(X.slots i).mono ae
  rows:=fun x r' Z=>by
   rcases hf x r' Z with⟨k1,rfl,O⟩|⟨_,Y,O⟩
   ·rw[O];exact⟨fun hn=>by have:=(hS x k1).1;omega,rfl⟩
   ·obtain⟨h1,h2⟩:=X.rows x r' Y;rw[O];refine⟨h1,?_⟩;cases hb:blk x with
    | none=>rw[hb]at h2;exact h2
    | some g =>
     rw[hb]at h2;exact⟨h2.1,h2.2.keep rfl rfl rfl rfl fun b q1 q2=>⟨q1,ho b q2,rfl⟩⟩
  inj:=fun x y r s g g' Z hy U ad e=>by
   rcases hf x r Z with⟨_,_,O⟩|⟨_,Y,O⟩
   ·rw[O]at U;cases U
   rcases hf y s hy with⟨_,_,q3⟩|⟨_,q2,q3⟩
   ·rw[q3]at ad;cases ad
   exact X.inj x y r s g g' Y q2 (O ▸ U) (q3 ▸ ad) e
  big:=X.big
  pha:=fun y r' g hy hm U j x s n hc=>by
   rcases hf y r' hy with⟨_,rfl,O⟩|⟨_,Y,O⟩
   ·rw[O]at U;cases U
   rw[O]at U;obtain⟨h0,u,q1,q2⟩:=X.pha y r' g Y hm U j x s n hc;refine⟨h0,u,q1,?_⟩
   by_cases hs:S x
   ·obtain⟨u',p1,p2,p3⟩:=ai y r' g Y hm U j x s n hc hs;rw[q1]at p1;cases p1;exact fun ah _ =>.inr ⟨(he x hs).2,p2,p3⟩
   ·exact fun ah q3=>by
     rw[(aa x hs).2];exact q2 ah ((aa x hs).1 ▸ q3)
  ali:=fun y r' g hy hz aj U j c d' hj ak=>by
   rcases hf y r' hy with⟨_,rfl,O⟩|⟨_,Y,O⟩
   ·rw[O]at U;cases U
   rw[O]at U;obtain⟨u,q1,q2⟩:=X.ali y r' g Y hz aj U j c d' hj ak;exact⟨u,q1,q2.mono ae⟩ }
theorem CO (d:Nat) (U:d<PK):vI (EH h) (EH (bj h d none)):=by
 intro k r' hk
 by_cases O:rt k=d
 ·rcases nO O with rfl|⟨o,rfl⟩
  ·rw[mz (by have:=b7;omega),aj]at hk;cases hk
  ·rw[nV U,aj]at hk;cases hk
 ·exact⟨r',by rw[<- hk];exact cR (al _ _ O).symm,.refl _⟩
theorem KW {v:Value} (h:jR v=.sl true true 0 []):v=.slice none 0 0:=by
 unfold jR at h;split at h<;>first|rfl|cases h
open Classical in
theorem N7 (hT:fb P T) (hI:Inv N M L w0 blk V t (EH h) a w) {ty d ao s f:Nat} {l c:Operand} {τ:Ty} {E:aR} (ho:o.op=.makeSlice ty l c) (hd:o.dst=some d) (hV:fY N V d e) (aD:∀o,¬V (NK d o) (4*e+2)) (hτ:T ty=some τ)
  (hE:SC T τ e d ao s f (ev t l) (ev t c)=some E):db P o a w (jv N M L w0 V t h a e o.dst E):=by
 have aE:=hI.ev l;have aF:=hI.ev c;have aO:=hI.big;have aP:=b7;obtain⟨dd,aa,hc⟩:=under hT hτ;unfold SC at hE;split at hE<;>try (cases hE;done)
 rename_i el aG;rw[aG]at hc;have:=dJ hc;subst this;split at hE<;>try (cases hE;done)
 rename_i φ n k hφ hn hk;split at hE<;>try (cases hE;done)
 rename_i aq;obtain⟨c1,c2,c3,c4,c5,c6,U,c8⟩:=aq;simp only[VP]at hE;subst hE;obtain⟨q1,hl⟩:=qd hn aE;obtain⟨q2,aH⟩:=qd hk aF;obtain⟨d',i,z,g1,g2,g3,g4,g5,g6,g7⟩:=(hT el φ hφ).get;have hb:(i.bytes:Int)*(k:Int)<=281474976710656:=by
  have:((i.bytes*k:Nat):Int)<=281474976710656:=by
   rw[g5,WD];omega
  rwa [WE]at this
 have ay:(k:Int)<=9223372036854775807:=by
  simp only[maxLen]at c2;omega
 have ab:=run_make (P:=P) w ty el i z aa g3 g6 q1 q2 n k (by omega) (by omega) hb ay;simp only[Int.toNat_natCast]at ab;have aQ:(φ.zero.map jR).length=φ.size:=by rw[Wa,c6]
 have hf:f<φ.size:=by
  rw[X9]at c8;rcases Wr f φ.size with ar|aS
  ·exact ar
  ·rw[Xg (by omega)]at c8;cases c8
 have az:(φ.zero.map jR)[f]? = some (.sl true true 0 []):=by
  rw[X9]at c8;unfold QL at c8;split at c8
  ·assumption
  ·cases c8
 have aA:(ju φ f).length=φ.size:=by
  unfold ju;rw[gm (by simp;omega)];simp[c6]
 have ai:∀(m:Nat) (x:D),(ju φ f)[m]? = some x->(m=f∧x=.nx 0 [])∨(m≠f∧∃y,(φ.zero.map jR)[m]? = some y∧x=canon y):=by
  intro m x hm;unfold ju at hm
  by_cases au:m=f
  ·subst au;rw[dC (by simp;omega)]at hm;exact .inl ⟨rfl,by simpa using hm.symm⟩
  ·rw[ez (by simp;omega) au,VC,VD]at hm;obtain⟨y,h1,h2⟩:=hm;exact .inr ⟨au,y,h1,h2.symm⟩
 generalize aB:madeCells z.cells (k*i.size)=vs at ab;have aI:vs.size=k*φ.size:=by rw[<- aB];simp[madeCells,g4]
 have ak:∀j,j<k*φ.size->vs.getD j undef=φ.zero.toArray.getD (j % φ.size) undef:=by
  intro j O;rw[<- aB,g7,g4,<- c6];have:=pH φ.zero k j (by rw[c6];exact O);simpa [madeCells,List.getD] using this
 have aw:∀(j:Nat) (x:D),(jK n (ju φ f))[j]? = some x->j<n*φ.size∧(ju φ f)[j % φ.size]? = some x:=by
  intro j x O;have:=vP _ _ _ _ O
  rwa [aA]at this
 have aT:n*φ.size<=k*φ.size:=Ws _ c1;have an:∀(M':Nat->Prop) (w':World) (j:Nat) (x:D),(jK n (ju φ f))[j]? = some x->dZ x=true->RP w' M' x (vs.getD j undef):=by
  intro M' w' j x O aJ;obtain⟨r1,r2⟩:=aw j x O;rw[ak j (by omega)];rcases ai _ x r2 with⟨_,rfl⟩|⟨_,y,h1,rfl⟩
  ·cases aJ
  ·exact (lJ (w:=w') (M:=M') φ.zero (VR.2 fun y hy=>(di (VR.1 c5 y hy)).1) _ y h1).2.canon
 have Y:∀(j:Nat) (n':Nat) (xs:List D),(jK n (ju φ f))[j]? = some (.nx n' xs)->n'=0∧xs=[]∧vs.getD j undef=.slice none 0 0:=by
  intro j n' xs O;obtain⟨r1,r2⟩:=aw j _ O;rcases ai _ _ r2 with⟨hm,he⟩|⟨_,y,h1,he⟩
  ·simp only[D.nx.injEq]at he;refine⟨he.1,he.2,?_⟩;rw[ak j (by omega),hm];rw[VC,VD]at az;obtain⟨v,v1,v2⟩:=az;simp only[VL,List.getElem?_toArray,v1,Option.getD_some];exact KW v2
  ·have:=VR.1 c5 y (V8 h1);cases y<;>first|(cases he;done)|(cases this;done)
 generalize aK:jK n (ju φ f)=cs at aw an Y;have aU:cs.length=n*φ.size:=by rw[<- aK,lX,aA]
 have hA:=hI.le (CO (h:=h) d U);have hold:∀b,b<w.heap.size->(w.alloc (.cells vs el)).heap[b]? = w.heap[b]?:=fun b hb=>Below.heap_alloc w _ b hb;have ae:=(Below.refl w.heap.size w).alloc (VG _) (.cells vs el);have Z:=heap_alloc_new w (.cells vs el);have ax:∀o,EH (bj h d none) (NK d o)=none:=fun o=>by rw[nV U,aj];rfl
 have ad:∀o,NK d o≠d:=fun o=>by have:=dO d o;omega
 have hB:=hA.CA (w':=w.alloc (.cells vs el)) (h1:=EH (bj h d none)) (old:=none) (d:=d) (e:=e) (r0:=⟨e,el,cs.mapIdx (lM d s),false,true,true⟩) (go:=some (w.heap.size,0)) ae.os ae.tape ae.output ae.size (fun k hk _=>hold k hk) (fun y hy=>by cases hy) rfl hV
  ⟨.inl (VG _),.inr ⟨fun x hx=>by
   obtain⟨j,O⟩:=V2 hx;simp only[Yb,VD]at O;obtain⟨d0,X,rfl⟩:=O;exact ik _ _ _ _,vs,Z,by simp only[Ya];omega,fun j x O=>by
   simp only[Yb,VD]at O;obtain⟨d0,X,rfl⟩:=O;rw[Wt]
   by_cases aa:dZ d0=true
   ·rw[gw aa];exact (di aa).2.2.2 (an _ _ j d0 X aa)
   ·cases d0<;>first|trivial|exact absurd rfl aa⟩⟩ rfl rfl (fun _ g hg j x s' n' O=>by
   cases hg;simp only[Yb,VD]at O;obtain⟨d0,X,he⟩:=O;obtain⟨xs,rfl,rfl,rfl⟩:=lH he;have ar:=(V9.1 X).1;refine⟨⟨U,.inr rfl⟩,_,aL Z (by omega),fun r hr =>?_⟩;rw[al _ _ (ad j),ax]at hr;cases hr)
 obtain⟨S,hS⟩:∃S:Nat->Prop,∀k,S k↔∃o xs,k=NK d o∧cs[o]? = some (.nx 0 xs):=⟨_,fun _=>Iff.rfl⟩;have hC:=hB.addEmpty S ao (4*e+2) (h':=EH (bj h d (some ⟨e,el,[.nr ao s (4*e+2) cs],false,true,true⟩))) (blk':=fun k=>if S k then none else bj blk d (some (w.heap.size,0)) k) (fun k hk=>by
   obtain⟨o',xs,rfl,ah⟩:=(hS k).1 hk;have:=dO d o';refine⟨by omega,by omega,?_,by rw[al _ _ (ad o'),ax]⟩;rintro (hv|⟨he,_⟩)
   ·exact aD o' hv
   ·exact ad o' he) (fun k hk=>by
   refine⟨?_,by rw[if_pos hk]⟩;obtain⟨o',xs,rfl,ah⟩:=(hS k).1 hk;rw[cM (aj _ _ _) rfl rfl U,ah];obtain⟨_,rfl,_⟩:=Y o' 0 xs ah;rfl) (fun k hk=>by
   refine⟨?_,by rw[if_neg hk]⟩
   by_cases hkd:rt k=d
   ·rcases nO hkd with rfl|⟨o',rfl⟩
    ·rw[aj,dF (aj _ _ _) rfl rfl U]
    ·rw[al _ _ (ad o'),ax,cM (aj _ _ _) rfl rfl U];cases aC:cs[o']? with
     | none=>rfl
     | some d0 =>
      cases d0 with
      | nx n' xs =>
       obtain⟨rfl,_,_⟩:=Y o' n' xs aC;exact absurd ((hS _).2 ⟨o',xs,rfl,aC⟩) hk
      | _=>rfl
   ·rw[al _ _ (fun e=>hkd (by rw[e,fj (by omega)]))];exact cR (by rw[al _ _ hkd,al _ _ hkd])) (fun y r g hy hm hg j x s' n' O hs=>by
   obtain⟨o',xs,rfl,ah⟩:=(hS _).1 hs;obtain⟨⟨p1,p2⟩,u,p3,_⟩:=hB.pha y r g hy hm hg j _ s' n' O;rcases p2 with p2|p2
   ·have:=dO d o';omega
   obtain⟨rfl,rfl⟩:=mV U p1 p2;rw[aj]at hy hg;cases hy;cases hg;simp only[Yb,VD]at O;obtain⟨d0,X,he⟩:=O;obtain⟨aM,rfl,_,rfl⟩:=lH he;obtain⟨k1,_,k3⟩:=Y o' n' aM X;have ar:=(V9.1 X).1;refine⟨_,aL Z (by omega),k1,none,?_⟩;rw[Wt];exact k3)
 have aN:¬S d:=fun hs=>by
  obtain⟨o',_,he,_⟩:=(hS d).1 hs;exact ad o' he.symm
 refine av (v := .slice (some ⟨w.heap.size,0,none⟩) n k) (w':=w.alloc (.cells vs el)) ?_ ⟨fun k=>if S k then none else bj blk d (some (w.heap.size,0)) k,?_,?_⟩
 ·simp[execOp,ho,hl,aH,ab]
 ·refine hC.weaken fun x v hx =>?_;rcases hx with hx|⟨rfl,rfl⟩
  ·exact .inl hx
  ·exact .inr ⟨hd,rfl⟩
 ·exact mX (g:=(w.heap.size,0)) (.inr ⟨hd,rfl⟩) (by rw[if_neg aN,aj]) Z c1 c2 (by rw[aI];simp)
end
section
variable {P:Program} {T:Nat->Option Ty} {N:Nat} {M:Nat->Prop} {L:fV} {w0:World} {blk:Nat->Option (Nat×Nat)} {V:Nat->Nat->Prop} {t:Nat->D} {h:Nat->Option Row} {a:Act} {w:World} {e:Nat} {o:Oper} {Γ:Env}
theorem Inv.RW (X:Inv N M L w0 blk V t h a w) (S:Nat->Prop) {w':World} {h':Nat->Option Row} {blk':Nat->Option (Nat×Nat)} {V':Nat->Nat->Prop} (hVV:∀x v,V x v->V' x v)
  (aw:w'.os=w.os) (ae:w'.tape=w.tape) (an:w'.output=w.output) (ah:w.heap.size<=w'.heap.size)
  (hblock:∀k,k<w.heap.size->(∀x r g,S x->h x=some r->blk x=some g->k≠g.1)->w'.heap[k]? = w.heap[k]?)
  (hfz:∀x r,S x->h x=some r->r.fz=false)
  (aa:∀x,¬S x->h' x=h x∧blk' x=blk x)
  (ai:∀x r,S x->h' x=some r->r.fz=false∧(x<N->V' x r.v)∧(match blk' x with
   | some g=>(w.heap.size<=g.1∨∃y s g0,S y∧h y=some s∧blk y=some g0∧g.1=g0.1)∧cr w' (Own M h' blk') g r
   | none=>r.cells=[]))
  (ao:∀x y r s g g',S x->S y->h' x=some r->h' y=some s->blk' x=some g->blk' y=some g'->g.1=g'.1->x=y)
  (aj:∀x r,S x->V x r.v->h' x=some r->(∃r0,h x=some r0∧r0.v=r.v)∧blk' x=blk x∧∀g,blk x=some g->w'.shape? g.1=w.shape? g.1)
  (aq:∀y r g,S y->h' y=some r->r.mp=true->blk' y=some g->∀j x s n:Nat,r.cells[j]? = some (D.ph x s n)->HZ y j x∧∃u,w'.cell? ⟨g.1,g.2+j,none⟩=some u∧Ra w' h' blk' x s n u)
  (ax:∀y r (j x s n:Nat),¬S y->h y=some r->r.mp=true->r.cells[j]? = some (D.ph x s n)->¬S x) :
  Inv N M L w0 blk' V' t h' a w':=by
 have hother:∀x r g,¬S x->h x=some r->blk x=some g->w'.heap[g.1]? = w.heap[g.1]?:=fun x r g hs U O=>hblock _ (X.lt U O) (fun y r' g' hy ay Y e=>hs (by rw[X.inj x y r r' g g' U ay O Y e];exact hy));have ak:∀b,b<w.heap.size->¬Own M h blk b->w'.heap[b]? = w.heap[b]?:=fun b hb hn=>hblock b hb fun x r g hs U O he=>hn (.inr ⟨x,r,g,U,hfz x r hs U,O,he.symm⟩);have hold:∀x r g,h' x=some r->blk' x=some g->w.heap.size<=g.1∨∃y s g0,h y=some s∧blk y=some g0∧g.1=g0.1∧(S y↔S x)∧(s.fz=false∨s=r)∧(S x∨y=x):=by
  intro x r g U O
  by_cases hs:S x
  ·have:=(ai x r hs U).2.2;rw[O]at this;rcases this.1 with k|⟨y,s,g0,k1,Z,k3,k4⟩
   ·exact .inl k
   ·exact .inr ⟨y,s,g0,Z,k3,k4,⟨fun _=>hs,fun _=>k1⟩,.inl (hfz y s k1 Z),.inl hs⟩
  ·obtain⟨k1,Z⟩:=aa x hs;exact .inr ⟨x,r,g,by rw[<- k1];exact U,by rw[<- Z];exact O,rfl,Iff.rfl,.inr rfl,.inr rfl⟩
 have ar:∀b,b<w.heap.size->¬Own M h blk b->¬Own M h' blk' b:=by
  intro b hb hn al;rcases al with al|⟨x,r,g,U,hz,O,he⟩
  ·exact hn (.inl al)
  ·rcases hold x r g U O with k|⟨y,s,g0,k1,Z,k3,_,k4,_⟩
   ·omega
   ·exact hn (.inr ⟨y,s,g0,k1,k4.elim id (fun e=>by rw[e];exact hz),Z,by rw[<- k3,he]⟩)
 have hk:∀b,b<w.heap.size->¬Own M h blk b->b<w'.heap.size∧¬Own M h' blk' b∧w'.heap[b]? = w.heap[b]?:=fun b h1 h2=>⟨by omega,ar b h1 h2,ak b h1 h2⟩;have au:∀x v,V x v->∀r',h' x=some r'->r'.v=v->(∃r,h x=some r∧r.v=v)∧blk' x=blk x∧∀g,blk x=some g->w'.shape? g.1=w.shape? g.1:=by
  intro x v hv r' U hr
  by_cases hs:S x
  ·subst hr;exact aj x r' hs hv U
  ·obtain⟨k1,Z⟩:=aa x hs;rw[k1]at U;exact⟨⟨r',U,hr⟩,Z,fun g O=>bz (hother x r' g hs U O)⟩
 have av:zF w w' (Own M h blk) (Own M h' blk') h h' blk blk' V V':=⟨hk,hVV,au⟩;exact {
  tab:=X.tab.keep hk
  below:=X.below.trans (L':=fun k=>∃x r g,S x∧h x=some r∧blk x=some g∧k=g.1) ⟨aw,ae,an,ah,fun k az hn=>hblock k az (fun x r g hs U O he=>hn ⟨x,r,g,hs,U,O,he⟩)⟩ (fun k ⟨x,r,g,hs,U,O,he⟩ aB=>by
   rcases X.base U O with hb|hb
   ·omega
   ·rw[he];exact hb)
  mlt:=X.mlt
  lent:=X.lent
  pin:=fun p hp=>⟨hVV _ _ (X.pin p hp).1,fun r hr hv=>by
   obtain⟨⟨r0,k1,Z⟩,k3,k4⟩:=au 0 0 (X.pin p hp).1 r hr hv;obtain⟨q1,q2⟩:=(X.pin p hp).2 r0 k1 Z;exact⟨k3.trans q1,fun g O=>(k4 g (q1.trans O)).trans (q2 g O)⟩⟩
  defers:=X.defers
  tsz:=X.tsz
  slots:=fun i=>(X.slots i).mono av
  rows:=fun x r U=>by
   by_cases hs:S x
   ·obtain⟨k1,Z,k3⟩:=ai x r hs U;refine⟨Z,?_⟩;cases O:blk' x with
    | none=>rw[O]at k3;exact k3
    | some g =>
     rw[O]at k3;refine⟨?_,k3.2⟩;rcases k3.1 with q|⟨y,s,g0,_,q2,q3,q4⟩
     ·exact .inl (VI X.below.size q)
     ·rw[q4];exact X.base q2 q3
   ·obtain⟨k1,Z⟩:=aa x hs;rw[k1]at U;rw[Z];exact⟨fun hn=>hVV _ _ ((X.rows x r U).1 hn),(X.rows x r U).2.keep (fun g O=>hother x r g hs U O) hk⟩
  inj:=fun x y r s g g' U hy O Y he=>by
   by_cases ab:S x
   ·by_cases ad:S y
    ·exact ao x y r s g g' ab ad U hy O Y he
    ·exfalso;obtain⟨k1,Z⟩:=aa y ad;rw[k1]at hy;rw[Z]at Y;rcases hold x r g U O with k|⟨z,s0,g0,q1,q2,q3,q4,_⟩
     ·have:=X.lt hy Y;omega
     ·have:=X.inj z y s0 s g0 g' q1 hy q2 Y (q3.symm.trans he);subst this;exact ad (q4.2 ab)
   ·obtain⟨k1,Z⟩:=aa x ab;rw[k1]at U;rw[Z]at O
    by_cases ad:S y
    ·exfalso;rcases hold y s g' hy Y with k|⟨z,s0,g0,q1,q2,q3,q4,_⟩
     ·have:=X.lt U O;omega
     ·have:=X.inj z x s0 r g0 g q1 U q2 O (q3.symm.trans he.symm);subst this;exact ab (q4.2 ad)
    ·obtain⟨k3,k4⟩:=aa y ad;rw[k3]at hy;rw[k4]at Y;exact X.inj x y r s g g' U hy O Y he
  big:=X.big
  pha:=fun y r g hy hm O j x s n hc=>by
   by_cases hs:S y
   ·exact aq y r g hs hy hm O j x s n hc
   ·obtain⟨k1,Z⟩:=aa y hs;rw[k1]at hy;rw[Z]at O;obtain⟨h0,u,q1,q2⟩:=X.pha y r g hy hm O j x s n hc;have ab:=ax y r j x s n hs hy hm hc;obtain⟨k3,k4⟩:=aa x ab;exact⟨h0,u,(VB (a:=⟨g.1,g.2+j,none⟩) (hother y r g hs hy O)).trans q1,q2.mono fun r' g1=>by
     rw[k3]at g1;exact⟨⟨r',g1⟩,k4,fun g' Y=>bz (hother x r' g' ab g1 Y)⟩⟩
  ali:=fun y r g hy hz hl O j c d' hj aA=>by
   by_cases hs:S y
   ·rw[(ai y r hs hy).1]at hz;cases hz
   ·obtain⟨k1,Z⟩:=aa y hs;rw[k1]at hy;rw[Z]at O;obtain⟨u,q1,q2⟩:=X.ali y r g hy hz hl O j c d' hj aA;exact⟨u,(VB (a:=⟨g.1,g.2+j,none⟩) (hother y r g hs hy O)).trans q1,q2.mono av⟩ }
theorem Jo {h:Nat->Option Row} {k:Nat} (hk:h (rt k)=none):EH h k=none:=by
 have:=cR (h:=h) (h':=fun _=>none) (k:=k) hk;rw[this];unfold EH;split<;>rfl
theorem cG {h:Nat->Option Row} {x k:Nat} {r r':Row} {ty s nv:Nat} {cs:List D} (O:h x=some r) (hm:r.mp=true) (U:r.cells=[.nr ty s nv cs]) (X:x<PK) (hk:rt k=x) (he:EH h k=some r') :
  (k=x∧r'=⟨r.v,r.ty,cs.mapIdx (lM x s),r.fz,r.lst,true⟩)∨∃o n xs,k=NK x o∧cs[o]? = some (.nx n xs)∧r'=⟨nv,ty,xs,r.fz,true,false⟩:=by
 rcases nO hk with rfl|⟨o,rfl⟩
 ·rw[dF O hm U X]at he;exact .inl ⟨rfl,by simpa using he.symm⟩
 ·rw[cM O hm U X]at he;unfold xZ at he;split at he
  ·rename_i n xs Y;exact .inr ⟨o,n,xs,rfl,Y,by simpa using he.symm⟩
  ·cases he
theorem sO {x:Nat} (O:x<PK):rt x=x:=fj (by have:=b7;omega)
theorem QQ {r r':Row} {k:Nat} (he:EH (j3 r) k=some r'):rt k=0:=by
 by_cases hk:rt k=0
 ·exact hk
 ·rw[Jo (by unfold j3;rw[if_neg hk])]at he;cases he
theorem jx:0<PK:=by rw[b7];decide
theorem fw {k ty t s nv:Nat} {cs:List D} {r':Row} (he:EH (j3 (fF ty t s nv cs)) k=some r') :
  (k=0∧r'=⟨0,ty,cs.mapIdx (lM 0 s),false,true,true⟩)∨∃o n xs,k=NK 0 o∧cs[o]? = some (.nx n xs)∧r'=⟨nv,t,xs,false,true,false⟩ :=
 cG (r:=fF ty t s nv cs) rfl rfl rfl jx (QQ he) he
theorem pB {ty t s nv:Nat} {cs:List D} : EH (j3 (fF ty t s nv cs)) 0=some ⟨0,ty,cs.mapIdx (lM 0 s),false,true,true⟩ :=
 dF (r:=fF ty t s nv cs) rfl rfl rfl jx
theorem nN {ty t s nv o n:Nat} {cs xs:List D} (O:cs[o]? = some (.nx n xs)):EH (j3 (fF ty t s nv cs)) (NK 0 o)=some ⟨nv,t,xs,false,true,false⟩:=by
 rw[cM (r:=fF ty t s nv cs) rfl rfl rfl jx,O];rfl
def Mp (x k:Nat):Nat:=@ite _ (k<2*PK) (UP k (2*PK)) x (NK x (k / PK-2))
theorem mq (x:Nat):Mp x 0=x:=if_pos (by have:=b7;omega)
theorem kr (x o:Nat):Mp x (NK 0 o)=NK x o:=by
 unfold Mp;rw[if_neg (by have:=dO 0 o;omega),vU o jx]
def lL (blk:Nat->Option (Nat×Nat)) (x k:Nat):Option (Nat×Nat):=blk (Mp x k)
def SX (blk:Nat->Option (Nat×Nat)) (h:Nat->Option Row) (x b:Nat):Prop:=∃k r g,rt k=x∧EH h k=some r∧blk k=some g∧g.1=b
theorem Cw {h:Nat->Option Row} {x:Nat} {r:Row} {ty s nv:Nat} {cs:List D} (U:h x=some r) (hm:r.mp=true) (X:r.cells=[.nr ty s nv cs]) (O:x<PK) (b:Nat):pQ (lL blk x) (EH (j3 (fF r.ty ty s 0 cs))) b↔SX blk h x b:=by
 constructor
 ·rintro⟨k,r',g,h1,h2,h3⟩;rcases fw h1 with⟨rfl,_⟩|⟨o,n,xs,rfl,Y,_⟩
  ·rw[lL,mq]at h2;exact⟨x,_,g,sO O,dF U hm X O,h2,h3⟩
  ·rw[lL,kr]at h2;exact⟨NK x o,_,g,oc O,by rw[cM U hm X O,Y];rfl,h2,h3⟩
 ·rintro⟨k,r',g,Z,h1,h2,h3⟩;rcases cG U hm X O Z h1 with⟨rfl,_⟩|⟨o,n,xs,rfl,Y,_⟩
  ·exact⟨0,_,g,pB,by rw[lL,mq];exact h2,h3⟩
  ·exact⟨NK 0 o,_,g,nN Y,by rw[lL,kr];exact h2,h3⟩
theorem Inv.Sx (hI:Inv N M L w0 blk V t (EH h) a w) {x:Nat} {r:Row} {ty s nv:Nat} {cs:List D} (hx:h x=some r) (hm:r.mp=true) (hc:r.cells=[.nr ty s nv cs]) (hz:r.fz=false) (Z:x<PK) {Q:Nat->Prop} (hQ:∀b,Q b->Own M (EH h) blk b) :
  zH w Q (lL blk x) (EH (j3 (fF r.ty ty s 0 cs))) where
 rows k r' hk:=by
  rcases fw hk with⟨rfl,rfl⟩|⟨o,n,xs,rfl,ho,rfl⟩
  ·rw[lL,mq];cases O:blk x with
   | none =>
    have:=(hI.rows x _ (dF hx hm hc Z)).2;rw[O]at this;have h1:cs.mapIdx (lM x s)=[]:=this;have h2:cs.length=0:=by
     have:=congrArg List.length h1;simpa using this
    show cs.mapIdx (lM 0 s)=[];rw[WY h2];rfl
   | some g =>
    obtain⟨arr,k1,k2,k3⟩:=hI.uT hx hm hc Z O;refine .inr ⟨fun d hd =>?_,arr,k1,by simpa using k2,fun j d U =>?_⟩
    ·obtain⟨j,U⟩:=V2 hd;simp only[Yb,VD]at U;obtain⟨d0,X,rfl⟩:=U;exact ik _ _ _ _
    ·simp only[Yb,VD]at U;obtain⟨d0,X,rfl⟩:=U
     by_cases Y:dZ d0=true
     ·rw[gw Y];exact (di Y).2.2.2 ((k3 j d0 X Y).less hQ)
     ·cases d0<;>first|trivial|exact absurd rfl Y
  ·rw[lL,kr];have hq:EH h (NK x o)=some ⟨nv,ty,xs,r.fz,true,false⟩:=by rw[cM hx hm hc Z,ho];rfl
   have:=(hI.rows _ _ hq).2;cases O:blk (NK x o) with
   | none=>rw[O]at this;exact this
   | some g =>
    rw[O]at this;obtain⟨arr,k1,k2,k3⟩:=this.2;exact⟨arr,k1,k2,fun j d U=>⟨(k3 j d U).1,(k3 j d U).2.less hQ⟩⟩
 inj k l r1 r2 g g' hk hl O aa he:=by
  have key:∀ {k:Nat} {r1:Row} {g:Nat×Nat},EH (j3 (fF r.ty ty s 0 cs)) k=some r1->lL blk x k=some g->∃r2,EH h (Mp x k)=some r2∧blk (Mp x k)=some g:=by
   intro k r1 g hk O;rcases fw hk with⟨rfl,_⟩|⟨o,n,xs,rfl,ho,_⟩
   ·exact⟨_,by rw[mq];exact dF hx hm hc Z,O⟩
   ·exact⟨_,by rw[kr,cM hx hm hc Z,ho];rfl,O⟩
  obtain⟨q1,k1,k2⟩:=key hk O;obtain⟨q2,k3,k4⟩:=key hl aa;have e1:=hI.inj _ _ _ _ _ _ k1 k3 k2 k4 he;rcases fw hk with⟨rfl,_⟩|⟨o,n,xs,rfl,ho,_⟩
  ·rcases fw hl with⟨rfl,_⟩|⟨o',n',ab,rfl,ad,_⟩
   ·rfl
   ·rw[mq,kr]at e1;have:=dO x o';have:=b7;omega
  ·rcases fw hl with⟨rfl,_⟩|⟨o',n',ab,rfl,ad,_⟩
   ·rw[mq,kr]at e1;have:=dO x o;have:=b7;omega
   ·rw[kr,kr]at e1;rw[(mV Z Z e1).2]
 pha k r' g hk ae O j x' s' n U:=by
  rcases fw hk with⟨rfl,rfl⟩|⟨o,n,xs,rfl,ho,rfl⟩;rotate_left
  ·cases ae
  rw[lL,mq]at O;simp only[Yb,VD]at U;obtain⟨d0,X,he⟩:=U;obtain⟨ah,rfl,rfl,rfl⟩:=lH he;obtain⟨u,k1,k2⟩:=hI.yc hx hm hc Z O X;refine⟨⟨jx,.inr rfl⟩,u,k1,fun _ _ =>?_⟩;unfold lL;rw[kr];exact k2
def zc (x k:Nat):Nat:=if k=x then 0 else NK 0 (k / PK-2)
theorem oA (x:Nat):zc x x=0:=if_pos rfl
theorem ib {x:Nat} (O:x<PK) (o:Nat):zc x (NK x o)=NK 0 o:=by
 unfold zc;rw[if_neg (by have:=dO x o;have:=b7;omega),vU o O]
def j9 (blk O:Nat->Option (Nat×Nat)) (x k:Nat):Option (Nat×Nat):=if rt k=x then O (zc x k) else blk k
theorem Inv.back (hI:Inv N M L w0 blk V t (EH h) a w) {x:Nat} {r:Row} {ty s nv ad:Nat} {cs cs':List D} {g0:Nat×Nat} (hx:h x=some r) (hm:r.mp=true) (hc:r.cells=[.nr ty s nv cs]) (hz:r.fz=false) (Y:x<PK)
  (hV:∀o,¬V (NK x o) ad) (ay:blk x=some g0) {w':World} {O:Nat->Option (Nat×Nat)} {M':Nat->Prop} {h1:Nat->Option Row} (aE:h1=EH (j3 (fF r.ty ty s 0 cs'))) (az:∀b,M' b↔Own M (EH h) blk b∧¬SX blk h x b)
  (hb:cC (SX blk h x) w w') (h0:O 0=some g0) (aF:w'.shape? g0.1=w.shape? g0.1) (aA:∀b,pQ O h1 b->w.heap.size<=b∨SX blk h x b) (hR:zH w' (fun b=>M' b∨pQ O h1 b) O h1) :
  Inv N M L w0 (j9 blk O x) V t (EH (bj h x (some ⟨r.v,r.ty,[.nr ty s ad cs'],false,r.lst,true⟩))) a w'∧∀b,Own M (EH (bj h x (some ⟨r.v,r.ty,[.nr ty s ad cs'],false,r.lst,true⟩))) (j9 blk O x) b->M' b∨pQ O h1 b:=by
 generalize aB:bj h x (some (⟨r.v,r.ty,[.nr ty s ad cs'],false,r.lst,true⟩:Row))=h2;have Z:h2 x=some ⟨r.v,r.ty,[.nr ty s ad cs'],false,r.lst,true⟩:=by rw[<- aB,aj]
 have aq:∀k,rt k≠x->EH h2 k=EH h k:=fun k hk=>cR (by rw[<- aB,al _ _ hk]);have ar:∀k,rt k≠x->j9 blk O x k=blk k:=fun k hk=>if_neg hk;have ak:j9 blk O x x=O 0:=by unfold j9;rw[if_pos (sO Y),oA]
 have au:∀o,j9 blk O x (NK x o)=O (NK 0 o):=fun o=>by unfold j9;rw[if_pos (oc Y),ib Y]
 subst aE;have aa:∀k r',rt k=x->EH h2 k=some r'->∃r1,EH (j3 (fF r.ty ty s 0 cs')) (zc x k)=some r1∧j9 blk O x k=O (zc x k):=by
  intro k r' hk he;have hq:j9 blk O x k=O (zc x k):=if_pos hk;rcases cG Z rfl rfl Y hk he with⟨rfl,_⟩|⟨o,n,xs,rfl,ho,_⟩
  ·rw[oA]at hq ⊢;exact⟨_,pB,hq⟩
  ·rw[ib Y]at hq ⊢;exact⟨_,nN ho,hq⟩
 have ae:∀b,Own M (EH h2) (j9 blk O x) b->M' b∨pQ O (EH (j3 (fF r.ty ty s 0 cs'))) b:=by
  intro b an;rcases an with an|⟨k,r',g,hk,aG,X,he⟩
  ·refine .inl ((az b).2 ⟨.inl an,?_⟩);rintro⟨k,r',g,_,q1,q2,q3⟩;exact hI.notM q1 q2 (by rw[q3];exact an)
  ·by_cases ao:rt k=x
   ·obtain⟨r1,q1,q2⟩:=aa k r' ao hk;exact .inr ⟨_,r1,g,q1,by rw[<- q2];exact X,he⟩
   ·rw[aq k ao]at hk;rw[ar k ao]at X;refine .inl ((az b).2 ⟨.inr ⟨k,r',g,hk,aG,X,he⟩,?_⟩);rintro⟨l,s',g',q0,q1,q2,q3⟩;have:=hI.inj k l r' s' g g' hk q1 X q2 (he.trans q3.symm);subst this;exact ao q0
 refine⟨?_,ae⟩;have aC:∀k r',rt k=x->EH h k=some r'->r'.fz=false:=by
  intro k r' hk he;rcases cG hx hm hc Y hk he with⟨_,rfl⟩|⟨o,n,xs,_,_,rfl⟩<;>exact hz
 refine hI.RW (fun k=>rt k=x) (fun _ _ h=>h) hb.os hb.tape hb.output hb.size (fun k hk hn=>hb.block k hk ?_) aC (fun k hk=>⟨aq k hk,ar k hk⟩) ?_ ?_ ?_ ?_ ?_
 ·rintro⟨l,r',g,q0,q1,q2,q3⟩;exact hn l r' g q0 q1 q2 q3.symm
 ·intro k r' hk he;have ab:∀g,j9 blk O x k=some g->w.heap.size<=g.1∨∃y s g0,rt y=x∧EH h y=some s∧blk y=some g0∧g.1=g0.1:=by
   intro g X;obtain⟨r1,q1,q2⟩:=aa k r' hk he;rcases aA g.1 ⟨_,r1,g,q1,by rw[<- q2];exact X,rfl⟩ with q|⟨y,s',g',p0,p1,p2,p3⟩
   ·exact .inl q
   ·exact .inr ⟨y,s',g',p0,p1,p2,p3.symm⟩
  have aD:∀ {g:Nat×Nat} {r1:Row},r1.mp=false->cr w' (fun b=>M' b∨pQ O (EH (j3 (fF r.ty ty s 0 cs'))) b) g r1->cr w' (Own M (EH h2) (j9 blk O x)) g r1:=by
   intro g r1 aH hr;unfold cr at hr ⊢;rw[aH]at hr ⊢;obtain⟨arr,k1,k2,k3⟩:=hr;exact⟨arr,k1,k2,fun j d hj=>⟨(k3 j d hj).1,(k3 j d hj).2.less ae⟩⟩
  rcases cG Z rfl rfl Y hk he with⟨rfl,rfl⟩|⟨o,n,xs,rfl,ho,rfl⟩
  ·refine⟨rfl,fun hn=>by have:=(hI.rows k _ (dF hx hm hc Y)).1 hn;exact this,?_⟩;rw[ak,h0];refine⟨ab g0 (ak.trans h0),?_⟩;have U:=hR.rows 0 _ pB;rw[h0]at U;have U:cr w' (fun b=>M' b∨pQ O (EH (j3 (fF r.ty ty s 0 cs'))) b) g0 ⟨0,r.ty,cs'.mapIdx (lM 0 s),false,true,true⟩:=U;unfold cr at U ⊢;simp only at U ⊢;rcases U with⟨ks,vs,k1,_⟩|⟨_,arr,k2,k3,k4⟩
   ·exfalso;simp only at k1;have hl:cs'.length=1:=by
     have:=congrArg List.length k1;simpa using this
    match cs',hl with
    | [d],_ =>
     simp only[List.mapIdx_cons,List.mapIdx_nil,V4,and_true]at k1;have:=ik 0 s 0 d;rw[k1]at this;cases this
   ·refine .inr ⟨fun d hd =>?_,arr,k2,by simpa using k3,fun j d hj =>?_⟩
    ·obtain⟨j,hj⟩:=V2 hd;simp only[Yb,VD]at hj;obtain⟨d0,ah,rfl⟩:=hj;exact ik _ _ _ _
    ·simp only[Yb,VD]at hj;obtain⟨d0,ah,rfl⟩:=hj
     by_cases ai:dZ d0=true
     ·rw[gw ai];have aI:(cs'.mapIdx (lM 0 s))[j]? = some d0:=by rw[Yb,ah];exact congrArg some (gw ai)
      exact (di ai).2.2.2 (((di ai).2.2.1 (k4 j _ aI)).less ae)
     ·cases d0<;>first|trivial|exact absurd rfl ai
  ·refine⟨rfl,fun hn=>by have:=dO x o;have:=hI.big;have:=b7;omega,?_⟩;have U:=hR.rows _ _ (nN ho);rw[au];cases X:O (NK 0 o) with
   | none=>rw[X]at U;exact U
   | some g =>
    rw[X]at U;refine⟨ab g ((au o).trans X),aD rfl ?_⟩;obtain⟨arr,k1,k2,k3⟩:=U;exact⟨arr,k1,k2,k3⟩
 ·intro k l r1 r2 g g' hk hl he av X aJ aK;obtain⟨q1,p1,p2⟩:=aa k r1 hk he;obtain⟨q2,p3,p4⟩:=aa l r2 hl av;have e1:=hR.inj _ _ _ _ g g' p1 p3 (by rw[<- p2];exact X) (by rw[<- p4];exact aJ) aK;rcases cG Z rfl rfl Y hk he with⟨rfl,_⟩|⟨o,n,xs,rfl,ho,_⟩
  ·rcases cG Z rfl rfl Y hl av with⟨rfl,_⟩|⟨o',n',aL,rfl,aM,_⟩
   ·rfl
   ·rw[oA,ib Y]at e1;have:=dO 0 o';have:=b7;omega
  ·rcases cG Z rfl rfl Y hl av with⟨rfl,_⟩|⟨o',n',aL,rfl,aM,_⟩
   ·rw[oA,ib Y]at e1;have:=dO 0 o;have:=b7;omega
   ·rw[ib Y,ib Y]at e1;rw[(mV jx jx e1).2]
 ·intro k r' hk hv he;rcases cG Z rfl rfl Y hk he with⟨rfl,rfl⟩|⟨o,n,xs,rfl,ho,rfl⟩
  ·refine⟨⟨_,dF hx hm hc Y,rfl⟩,by rw[ak,h0,ay],fun g X =>?_⟩;rw[ay]at X;cases X;exact aF
  ·exact absurd hv (hV o)
 ·intro k r' g hk he aw X j x' s' n hj;rcases cG Z rfl rfl Y hk he with⟨rfl,rfl⟩|⟨o,n',xs,rfl,ho,rfl⟩;rotate_left
  ·cases aw
  simp only[Yb,VD]at hj;obtain⟨d0,ah,aN⟩:=hj;obtain⟨aO,rfl,rfl,rfl⟩:=lH aN;rw[ak]at X;obtain⟨_,u,k1,k2⟩:=hR.pha 0 _ g pB rfl X j (NK 0 j) s' n (by simp only[Yb,ah,Option.map_some,lM]);refine⟨⟨Y,.inr rfl⟩,u,k1,fun _ _ =>?_⟩;have:=k2 _ (nN ah);rw[au];exact this
 ·intro y r' j x' s' n hy he aw hj ax;have hrow:=(hI.rows y r' he).2;cases X:blk y with
  | none =>
   rw[X]at hrow;have hrow:r'.cells=[]:=hrow;rw[hrow]at hj;cases hj
  | some g =>
   obtain⟨q1,q2⟩:=(hI.pha y r' g he aw X j x' s' n hj).1;rcases q2 with rfl|rfl
   ·have:rt (PK+y)=PK+y:=fj (by omega);rw[this]at ax;omega
   ·rw[oc q1]at ax;rw[sO q1]at hy;exact hy ax
end
section
variable {P:Program} {T:Nat->Option Ty} {N:Nat} {M:Nat->Prop} {L:fV} {w0:World} {blk:Nat->Option (Nat×Nat)} {V:Nat->Nat->Prop} {t:Nat->D} {h:Nat->Option Row} {a:Act} {w:World} {e:Nat} {o:Oper} {Γ:Env}
theorem Inv.Sq (hI:Inv N M L w0 blk V t (EH h) a w) {x:Nat} {r:Row} {ty s nv n j:Nat} {cs xs:List D} (hx:h x=some r) (hm:r.mp=true) (hc:r.cells=[.nr ty s nv cs]) (hz:r.fz=false) (Z:x<PK) (hj:cs[j]? = some (.nx n xs)) (hn:xs.length=n*s) :
  Inv N M L w0 blk V t (EH (bj h x (some ⟨r.v,r.ty,[.nr ty s nv (cs.set j (.sl false false n xs))],false,r.lst,true⟩))) a w∧∀b,Own M (EH (bj h x (some ⟨r.v,r.ty,[.nr ty s nv (cs.set j (.sl false false n xs))],false,r.lst,true⟩))) blk b->Own M (EH h) blk b:=by
 have ao:j<cs.length:=(V9.1 hj).1;obtain⟨g,hg⟩:∃g,blk x=some g:=by
  cases hg:blk x with
  | some g=>exact⟨g,rfl⟩
  | none =>
   have:=(hI.rows x _ (dF hx hm hc Z)).2;rw[hg]at this;have h1:cs.mapIdx (lM x s)=[]:=this;have h2:cs.length=0:=by
    have:=congrArg List.length h1;simpa using this
   omega
 have hK:EH h (NK x j)=some ⟨nv,ty,xs,false,true,false⟩:=by rw[cM hx hm hc Z,hj,hz];rfl
 obtain⟨u,aq,ax⟩:=hI.yc hx hm hc Z hg hj;obtain⟨arr,ar,az,aA⟩:=hI.uT hx hm hc Z hg;have aB:=hI.freeze [NK x j];have aC:RP w (Own M (ay (EH h) (fB (EH h) [NK x j])) blk) (.sl false false n xs) u:=by
  have hW:=hI.weaken (V':=fun y v=>V y v∨(y=NK x j∧v=nv)) (fun _ _ h =>.inl h);have aE:RT w (Own M (EH h) blk) (EH h) blk (fun y v=>V y v∨(y=NK x j∧v=nv)) (.buf (NK x j) nv s 0 n) u:=by
   refine⟨.inr ⟨rfl,rfl⟩,fun r' aH aI =>?_⟩;rcases ax with⟨g1,c,N',aF,k1,k2,k3,k4,k5,k6⟩|⟨k1,k2,k3⟩
   ·exact .inl ⟨g1,g1.2,c,N',aF,k1,k2,fun _=>⟨by omega,k3⟩,k4,k5,k6⟩
   ·exact .inr ⟨k1,k2,k3⟩
  have hl:live (EH h) (NK x j) nv=some ⟨nv,ty,xs,false,true,false⟩:=by
   unfold live;rw[hK];simp
  have aG:Am.aV (EH h) (.buf (NK x j) nv s 0 n)=some (.sl false false n xs,[NK x j]):=by
   simp only[Am.aV,Am.aD,Am.b9,hl,Wt,W6];rw[if_pos (by rw[hn];exact VG _),<- hn,XI];rfl
  exact hW.aV aG (hW.dB [NK x j]) aE
 generalize X:bj (EH h) (NK x j) none=h1;have aa:bj (ay (EH h) (fB (EH h) [NK x j])) (NK x j) none=h1:=by
  rw[<- X];funext k
  by_cases hk:k=NK x j
  ·rw[hk,aj,aj]
  ·rw[al _ _ hk,al _ _ hk,xr];rw[if_neg (by simpa using hk)]
 have ak:=aB.drop (NK x j);rw[aa]at ak;have an:∀b,Own M h1 blk b->Own M (ay (EH h) (fB (EH h) [NK x j])) blk b:=by
  rintro b (hb|⟨k,r',g',hk,ab,O,he⟩)
  ·exact .inl hb
  ·refine .inr ⟨k,r',g',?_,ab,O,he⟩;rw[<- aa]at hk
   by_cases U:k=NK x j
   ·rw[U,aj]at hk;cases hk
   ·rwa [al _ _ U]at hk
 have au:h1 x=some ⟨r.v,r.ty,cs.mapIdx (lM x s),r.fz,r.lst,true⟩:=by
  rw[<- X,al _ _ (by have:=dO x j;have:=b7;omega)];exact dF hx hm hc Z
 have av:∀(i:Nat) d,(cs.set j (.sl false false n xs))[i]? = some d->(i=j∧d=.sl false false n xs)∨(i≠j∧cs[i]? = some d):=by
  intro i d Y
  by_cases hji:i=j
  ·subst hji;rw[List.getElem?_set_self ao]at Y;exact .inl ⟨rfl,by simpa using Y.symm⟩
  ·rw[List.getElem?_set_ne (fun e=>hji e.symm)]at Y;exact .inr ⟨hji,Y⟩
 have hB:=ak.gY (x:=x) (r:=⟨r.v,r.ty,cs.mapIdx (lM x s),r.fz,r.lst,true⟩) (r0:=⟨r.v,r.ty,(cs.set j (.sl false false n xs)).mapIdx (lM x s),false,r.lst,true⟩) (w':=w) au hz rfl rfl rfl rfl (VG _) (fun _ _ _=>rfl) (by
   rw[hg];refine⟨rfl,.inr ⟨fun d hd =>?_,arr,ar,by simp only[Ya,XE];exact az,fun i d Y =>?_⟩⟩
   ·obtain⟨i,Y⟩:=V2 hd;simp only[Yb,VD]at Y;obtain⟨d0,ae,rfl⟩:=Y;exact ik _ _ _ _
   ·simp only[Yb,VD]at Y;obtain⟨d0,ae,rfl⟩:=Y;rcases av i d0 ae with⟨rfl,rfl⟩|⟨hij,ad⟩
    ·have e1:arr.getD (g.2+i) undef=u:=by
      have:=aL ar (show g.2+i<arr.size by omega);rw[this]at aq;simpa using aq
     rw[e1];exact aC.less an
    ·by_cases ah:dZ d0=true
     ·rw[gw ah];refine (di ah).2.2.2 ((aA i d0 ad ah).less fun b hb =>?_);rcases hb with hb|⟨k,r',g',hk,ab,O,he⟩
      ·exact .inl hb
      ·refine .inr ⟨k,r',g',?_,ab,O,he⟩;rw[<- X]at hk
       by_cases U:k=NK x j
       ·rw[U,aj]at hk;cases hk
       ·rwa [al _ _ U]at hk
     ·cases d0<;>first|trivial|exact absurd rfl ah) (fun h=>by cases h) (fun _ g' O i x' s' n' Y=>by
   rw[hg]at O;cases O;simp only[Yb,VD]at Y;obtain⟨d0,ae,he⟩:=Y;obtain⟨aJ,rfl,rfl,rfl⟩:=lH he;rcases av i _ ae with⟨rfl,ad⟩|⟨hij,ad⟩
   ·cases ad
   ·exact ak.pha x _ g au rfl hg i (NK x i) s' n' (by simp only[Yb,ad,Option.map_some,lM]))
 have ai:bj h1 x (some (⟨r.v,r.ty,(cs.set j (.sl false false n xs)).mapIdx (lM x s),false,r.lst,true⟩:Row))=EH (bj h x (some ⟨r.v,r.ty,[.nr ty s nv (cs.set j (.sl false false n xs))],false,r.lst,true⟩)):=by
  have aw:bj h x (some (⟨r.v,r.ty,[.nr ty s nv (cs.set j (.sl false false n xs))],false,r.lst,true⟩:Row)) x=some ⟨r.v,r.ty,[.nr ty s nv (cs.set j (.sl false false n xs))],false,r.lst,true⟩:=aj _ _ _;funext k
  by_cases hkx:rt k=x
  rotate_left
  ·rw[al _ _ (fun e=>hkx (by rw[e,fj (by have:=b7;omega)])),<- X,al _ _ (fun e=>hkx (by rw[e,oc Z]))];exact cR (by rw[al _ _ hkx])
  rcases nO hkx with rfl|⟨i,rfl⟩
  ·rw[aj,dF aw rfl rfl Z]
  ·rw[al _ _ (by have:=dO x i;have:=b7;omega),cM aw rfl rfl Z,<- X]
   by_cases hij:i=j
   ·rw[hij,aj,List.getElem?_set_self ao];rfl
   ·rw[al _ _ (fun e=>hij (mV Z Z e).2),cM hx hm hc Z,List.getElem?_set_ne (fun e=>hij e.symm),hz]
 rw[ai]at hB;refine⟨hB,?_⟩;rintro b (hb|⟨k,r',g',hk,ab,O,he⟩)
 ·exact .inl hb
 ·rw[<- ai]at hk
  by_cases hkx:k=x
  ·subst hkx;exact .inr ⟨k,_,g',dF hx hm hc Z,hz,O,he⟩
  ·rw[al _ _ hkx,<- X]at hk
   by_cases U:k=NK x j
   ·rw[U,aj]at hk;cases hk
   ·rw[al _ _ U]at hk;exact .inr ⟨k,r',g',hk,ab,O,he⟩
end
def vv (s:Nat):D->Bool
 | .nx n xs=>xs.length==n*s
 | d=>dZ d
end Go.Proofs.Ytgnoaanebhmegaa.Am
