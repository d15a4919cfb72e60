/- Part of a proof, made small by a program (wip/mini.py). -/
import Derived.Test.YtpkahnkoecbndaaGreatDoorUa
namespace Go.Proofs.YtpkahnkoecbndaaGreatDoor.Am
open Go.RowKit
set_option linter.unusedSimpArgs false
set_option linter.unusedVariables false
section
variable {P:Program} {T:Nat→Option Ty} {N:Nat} {M:Nat→Prop} {L:sS} {w0:World} {blk:Nat→Option (Nat×Nat)} {V:Nat→Nat→Prop} {t:Nat→D} {h:Nat→Option Row} {a:Act} {w:World} {e:Nat} {o:Oper} {Γ:Env}
theorem VF (hT:lC P T) {ft:Nat} {φ:Ty} (hφ:T ft=some φ) (hs:jR φ.ds=true) {x y:D} {u v:Value} {b:Bool} {M':Nat→Prop} (hx:RP w M' x u) (hy:RP w M' y v) (hb:Mu x y=some b) (n:Nat) :
  (∃d,P.underlying ft=some d)∧((∃k,φ.ds=.int k∧∃k' i j,x=.int k' i∧y=.int k' j)∨(φ.ds=.bool∧∃i j,x=.bool i∧y=.bool j)∨(φ.ds=.str∧∃i j,x=.str i∧y=.str j)→(Op.equalIn (n+1) ft u v).run P w=.ok b w):=by
 obtain⟨d,hd,hc⟩:=under hT hφ
 refine⟨⟨d,hd⟩,?_⟩
 rintro (⟨k,hk,k',i,j,rfl,rfl⟩|⟨hk,i,j,rfl,rfl⟩|⟨hk,i,j,rfl,rfl⟩)
 ·rw[hk]at hc
  have:=xo hc
  subst this
  cases hx;cases hy
  simp only[Mu,if_true,Option.some.injEq]at hb
  subst hb
  simp[Op.equalIn,run_underlying hd]
 ·rw[hk]at hc
  have:=uH hc
  subst this
  cases hx;cases hy
  simp only[Mu,Option.some.injEq]at hb
  subst hb
  simp[Op.equalIn,run_underlying hd]
 ·rw[hk]at hc
  have:=qg hc
  subst this
  cases hx;cases hy
  simp only[Mu,Option.some.injEq]at hb
  subst hb
  simp[Op.equalIn,run_underlying hd]
theorem Qs {x y:D} {b:Bool} {s:Ds} (hb:Mu x y=some b) (hk:kindOk s x=true) :
  (∃k,s=.int k∧∃k' i j,x=.int k' i∧y=.int k' j)∨(s=.bool∧∃i j,x=.bool i∧y=.bool j)∨(s=.str∧∃i j,x=.str i∧y=.str j):=by
 cases x<;>cases y<;>simp only[Mu]at hb<;>try (cases hb;done)
 ·rename_i k i k' j
  split at hb
  ·rename_i he
   subst he
   cases s<;>simp[kindOk]at hk
   exact .inl ⟨_,rfl,_,_,_,rfl,rfl⟩
  ·cases hb
 ·cases s<;>simp[kindOk]at hk
  exact .inr (.inl ⟨rfl,_,_,rfl,rfl⟩)
 ·cases s<;>simp[kindOk]at hk
  exact .inr (.inr ⟨rfl,_,_,rfl,rfl⟩)
theorem G6 (hI:Inv N M L w0 blk V t h a w) {x:Operand} {i:Nat} {xs:List D} {d:D} (ho:o.op=.extract x i) (hx:ev t x=.tup xs) (hd:xs[i]? = some d):fQ P o a w (aZ N M L w0 V t h a e o.dst ⟨d,[]⟩):=by
 have hp:=hI.ev x
 rw[hx]at hp
 have hp':RP w (Own M h blk) (.tup xs) (a.eval x):=hp
 generalize hu:a.eval x=u at *
 cases hp' with
 | tup xs us h1 h2 =>
  have hlt:=(List.getElem?_eq_some_iff.1 hd).1
  refine aC (v:=us.getD i undef) (w':=w) ?_ (aZ.dW hI (bX (h2 i d hd)))
  have hget:us[i]? = some (us.getD i undef):=by simp[List.getD,List.getElem?_eq_getElem (show i<us.length by omega)]
  generalize us.getD i undef=v at *
  simp[execOp,ho,Instr.extract,hu,hget]
theorem G5 (hT:lC P T) (hI:Inv N M L w0 blk V t h a w) {x:Operand} {src ty:Nat} {τ σ:Ty} {k k':IntKind} {n:Int} (ho:o.op=.convert src ty x) (hτ:T ty=some τ) (hσ:T src=some σ) (hds:τ.ds=.int k') (hx:ev t x=.int k n) :
  fQ P o a w (aZ N M L w0 V t h a e o.dst ⟨.int k' (k'.wrap n),[]⟩):=by
 have hp:=hI.ev x
 rw[hx]at hp
 have hu:=kb hp
 obtain⟨d,hd,hc⟩:=under hT hτ
 obtain⟨d2,hd2,_⟩:=under hT hσ
 rw[hds]at hc
 have:=xo hc
 subst this
 refine aC (v := .int k' (k'.wrap n)) (w':=w) ?_ (aZ.dW hI (bX (.int _ _)))
 have:=run_convert_int (P:=P) (w:=w) src ty k n (by simp[hd2])
 simp[execOp,ho,hu,convert,run_underlying hd,run_underlying hd2,Conv.intToInt]
theorem Qo (hI:Inv N M L w0 blk V t h a w) {x:Operand} {op:UnOp} {ty:Nat} {d:D} (ho:o.op=.unOp op ty x) (hd:EI op (ev t x)=some d):fQ P o a w (aZ N M L w0 V t h a e o.dst ⟨d,[]⟩):=by
 have hp:=hI.ev x
 generalize ev t x=q at *
 cases q with
 | int k n =>
  have hu:=kb hp
  cases op<;>simp only[EI,Option.some.injEq]at hd<;>try (cases hd;done)
  all_goals
   subst hd
   refine aC (w':=w) ?_ (aZ.dW hI (bX (.int _ _)))
   simp[execOp,ho,hu,Op.unary,Op.intArith,Op.intBits,Bx]
 | bool b =>
  have hu:=uD hp
  cases op<;>simp only[EI,Option.some.injEq]at hd<;>try (cases hd;done)
  all_goals
   subst hd
   refine aC (w':=w) ?_ (aZ.dW hI (bX (.bool _)))
   simp[execOp,ho,hu,Op.unary]
 | _=>simp[EI]at hd
theorem uN:∀ {xs:List D},oH xs=true→∀x∈xs,fY x=true
 | [],_,x,hx=>by simp at hx
 | y::ys,h,x,hx=>by
  simp only[oH,Bool.and_eq_true]at h
  rcases List.mem_cons.1 hx with rfl|hx
  ·exact h.1
  ·exact uN h.2 x hx
theorem RP.flat {M1 M2:Nat→Prop} {d:D} {u:Value} (hr:RP w M1 d u) (hf:fY d=true):RP w M2 d u:=by
 induction hr with
 | int k n=>exact .int k n
 | bool b=>exact .bool b
 | str s=>exact .str s
 | sl A c nl tight n xs us h1 h2 h3 h4 h5 h6 h7 h8 ih=>simp[fY]at hf
 | agg xs us h1 h2 h3 ih =>
  simp only[fY]at hf
  exact .agg xs us h1 (fun j x hj=>ih j x hj (uN hf x (List.mem_of_getElem? hj))) h3
 | tup xs us h1 h2 ih =>
  simp only[fY]at hf
  exact .tup xs us h1 (fun j x hj=>ih j x hj (uN hf x (List.mem_of_getElem? hj)))
 | ip xs ad us h6 h7 h8 ih=>simp[fY]at hf
 | fn f=>exact .fn f
 | ali x v s o n u h1=>simp[fY]at hf
 | mpc ks vs mb us h1 h2 h3 h4 ih=>simp[fY]at hf
 | alm x v u h1=>simp[fY]at hf
 | clo f kk xs us h1 h2 ih=>simp[fY]at hf
theorem wX {h:Nat→Option Row} {blk:Nat→Option (Nat×Nat)} {old:Option Nat} {b:Nat} (hb:Own M (forget h old) blk b):Own M h blk b:=by
 rcases hb with hb|⟨x,r,g,hx,hz,hg,he⟩
 ·exact .inl hb
 ·refine .inr ⟨x,r,g,?_,hz,hg,he⟩
  cases old with
  | none=>exact hx
  | some y =>
   simp only[forget]at hx
   by_cases hxy:x=y
   ·subst hxy;simp[er]at hx
   ·rwa [bA _ _ hxy]at hx
theorem Inv.fresh (hI:Inv N M L w0 blk V t h a w) {w':World} {v:Value} {d ty s n:Nat} {cells:List D} {old dst:Option Nat} (hd:dst=some d) (hV:kn N V d e)
  (hb:cu (fun b=>∃y g,old=some y∧blk y=some g∧b=g.1) w w') (hold:∀y,old=some y→∃r,h y=some r∧r.fz=false)
  (hg:(∃(g:Nat×Nat) (c:Nat) (cs:Array Value),v=.slice (some ⟨g.1,g.2,none⟩) n c∧(w.heap.size≤g.1∨∃y g0,old=some y∧blk y=some g0∧g.1=g0.1)∧w'.heap[g.1]? = some (.cells cs ty (0,0))∧n≤c∧c≤maxLen∧c*s+g.2=cs.size∧g.2+cells.length≤cs.size ∧
   ∀(j:Nat) d,cells[j]? = some d→aY d=true∧RP w' (fun b=>Own M (forget h old) blk b∨b=g.1) d (cs.getD (g.2+j) undef))∨(n=0∧cells=[]∧∃A,v=.slice A 0 0)) :
  ∃blk',Inv N M L w0 blk' (fun x k=>V x k∨(dst=some x∧k=e)) t (er (forget h old) d (some ⟨e,ty,cells,false,true,false⟩)) a w' ∧
   RT w' (Own M (er (forget h old) d (some ⟨e,ty,cells,false,true,false⟩)) blk') (er (forget h old) d (some ⟨e,ty,cells,false,true,false⟩)) blk' (fun x k=>V x k∨(dst=some x∧k=e)) (.buf d e s 0 n) v:=by
 have hW:∀ {blk':Nat→Option (Nat×Nat)},Inv N M L w0 blk' (fun x k=>V x k∨(x=d∧k=e)) t (er (forget h old) d (some ⟨e,ty,cells,false,true,false⟩)) a w'→Inv N M L w0 blk' (fun x k=>V x k∨(dst=some x∧k=e)) t (er (forget h old) d (some ⟨e,ty,cells,false,true,false⟩)) a w':=fun hJ=>hJ.weaken fun x k hx=>by
  rcases hx with hx|⟨rfl,rfl⟩
  ·exact .inl hx
  ·exact .inr ⟨hd,rfl⟩
 rcases hg with⟨g,c,cs,rfl,g1,g2,g3,g4,g5,g6,g7⟩|⟨rfl,rfl,A,rfl⟩
 ·refine⟨er blk d (some g),hW (hI.Mf (old:=old) hb.os hb.tape hb.output hb.size (fun k hk hn=>hb.block k hk (fun⟨y,g0,h1,h2,h3⟩=>hn y g0 h1 h2 h3)) hold rfl hV ⟨g1,cs,g2,g6,g7⟩),?_⟩
  exact wK (.inr ⟨hd,rfl⟩) (bB _ _ _) g2 g3 g4 g5
 ·refine⟨er blk d none,hW (hI.Mf (go:=none) (old:=old) hb.os hb.tape hb.output hb.size (fun k hk hn=>hb.block k hk (fun⟨y,g0,h1,h2,h3⟩=>hn y g0 h1 h2 h3)) hold rfl hV rfl),?_⟩
  exact⟨.inr ⟨hd,rfl⟩,fun _ _ _ =>.inr ⟨bB _ _ _,rfl,A,rfl⟩⟩
theorem RP.less {M1 M2:Nat→Prop} {d:D} {u:Value} (hr:RP w M1 d u) (hm:∀b,M2 b→M1 b):RP w M2 d u:=hr.keep fun _ h1 h2=>⟨h1,fun hb=>h2 (hm _ hb),rfl⟩
theorem Inv.IB (hI:Inv N M L w0 blk V t h a w) {ds aai:List D} {fr:List Nat} {vs:Array Value} {M':Nat→Prop} (hca:Am.cn h ds=some (aai,fr)) (hl:ot M h blk fr M') (hsz:vs.size=ds.length)
  (hr:∀(j:Nat) d,ds[j]? = some d→RT w (Own M h blk) h blk V d (vs.getD j undef)):N7 w M' aai vs:=by
 obtain⟨i1,i2⟩:=hI.cn (us:=vs.toList) hca hl (by simpa using hsz) (fun j d hj=>by have:=hr j d hj;simpa [List.getD] using this)
 refine⟨by simpa using i1,fun j d hj =>?_,fun b hb=>(hI.tab b hb).less hl.le⟩
 have:=i2 j d hj
 simpa [List.getD] using this
theorem IL (hΓ:bN P Γ) (hI:Inv N M L w0 blk V t h a w) {g:Nat} {dst:Option Nat} {E:dS} {ds:List D} {vs:Array Value} (hE:tq Γ h e dst g ds=some E) (hV:∀d,dst=some d→kn N V d e) (hsz:vs.size=ds.length)
  (hr:∀(j:Nat) d,ds[j]? = some d→RT w (Own M h blk) h blk V d (vs.getD j undef)):iF P g∧Calls P g vs w fun e' w'=>∃v,e'=.returned v∧aZ N M L w0 V t h a e dst E v w':=by
 unfold tq at hE
 split at hE
 ·rename_i aai fr hca
  split at hE
  ·rename_i r out hs
   simp only[Option.some.injEq]at hE
   subst hE
   obtain⟨hcalls,hcl⟩:=hΓ.calls g none aai _ _ hs
   refine⟨hcl,?_⟩
   by_cases hflat:fY r=true
   ·refine (hcalls w _ vs (fun b hb=>hI.C5 hb.1) (hI.IB hca (hI.F4 fr) hsz hr)).mono fun e' w' hg =>?_
    obtain⟨v,he,hb,hv⟩:=hg
    refine⟨v,he,?_⟩
    rw[if_pos hflat]
    exact aZ.dW (hI.later hb) (bX (RP.flat hv hflat))
   ·have hIf:=hI.freeze fr
    refine (hcalls w _ vs (fun b hb=>hIf.C5 hb) (hI.IB hca (hI.fI fr) hsz hr)).mono fun e' w' hg =>?_
    obtain⟨v,he,hb,hv⟩:=hg
    refine⟨v,he,?_⟩
    rw[if_neg hflat]
    exact⟨blk,(hIf.later hb).weaken fun _ _ h =>.inl h,bX hv⟩
  ·rename_i ty s n cells out hs
   split at hE
   ·rename_i d
    split at hE
    ·rename_i hfr
     simp only[Option.some.injEq]at hE
     subst hE
     obtain⟨hcalls,hcl⟩:=hΓ.calls g none aai _ _ hs
     refine⟨hcl,?_⟩
     by_cases hflat:oH cells=true
     ·refine (hcalls w _ vs (fun b hb=>hI.C5 hb.1) (hI.IB hca (hI.F4 fr) hsz hr)).mono fun e' w' hg =>?_
      obtain⟨v,he,hb,hv⟩:=hg
      refine⟨v,he,?_⟩
      rw[if_pos hflat]
      exact hI.fresh (old:=none) rfl (hV d rfl) (cu.qu hb) (fun y hy=>by cases hy) (by
       rcases hv with⟨g,c,cs,h1,h2,h3,h4,h5,h6,h7,h8⟩|hv
       ·exact .inl ⟨g,c,cs,h1,.inl (h2.resolve_right id),h3,h4,h5,h6,h7,fun j x hj=>⟨(h8 j x hj).1,(h8 j x hj).2.flat (uN hflat x (List.mem_of_getElem? hj))⟩⟩
       ·exact .inr hv)
     ·have hIf:=hI.freeze fr
      refine (hcalls w _ vs (fun b hb=>hIf.C5 hb) (hI.IB hca (hI.fI fr) hsz hr)).mono fun e' w' hg =>?_
      obtain⟨v,he,hb,hv⟩:=hg
      refine⟨v,he,?_⟩
      rw[if_neg hflat]
      have:=hIf.fresh (e:=e) (ty:=ty) (s:=s) (cells:=cells) (n:=n) (v:=v) (old:=none) (dst:=some d) rfl (hV d rfl) (cu.qu hb) (fun y hy=>by cases hy) (by
       rcases hv with⟨g,c,cs,h1,h2,h3,h4,h5,h6,h7,h8⟩|hv
       ·exact .inl ⟨g,c,cs,h1,.inl (h2.resolve_right id),h3,h4,h5,h6,h7,h8⟩
       ·exact .inr hv)
      unfold aZ
      rw[fR]
      exact this
    ·cases hE
   ·cases hE
  ·cases hE
 ·cases hE
theorem Inv.Wm (hI:Inv N M L w0 blk V t h a w) {x v:Nat} {r:Row} (hl:live h x v=some r) {u:Value} : (∀s o n,RT w (Own M h blk) h blk V (.buf x v s o n) u→EM w (blk x) (.buf 0 0 s o n) u)∧(∀o,RT w (Own M h blk) h blk V (.ptr x v o) u→EM w (blk x) (.ptr 0 0 o) u):=by
 obtain⟨hx,hv⟩:=bT hl
 exact⟨fun s o n hr=>⟨trivial,fun r' _ _=>hr.2 r hx hv⟩,fun o hr=>⟨trivial,fun r' _ _=>hr.2 r hx hv⟩⟩
theorem IP (hΓ : bN P Γ) (hI : Inv N M L w0 blk V t h a w) {g x v : Nat} {d0 : D} {dst : Option Nat} {E : dS} {ds : List D} {u0 : Value} {vs : Array Value} (hE : so Γ h e dst g x v d0 ds = some E) (hV : ∀ d, dst = some d → kn N V d e) (hVx : V x v)
    (h0 : ∀ r, live h x v = some r → EM w (blk x) d0 u0) (hsz : vs.size = ds.length) (hr : ∀ (j : Nat) d, ds[j]? = some d → RT w (Own M h blk) h blk V d (vs.getD j undef)) :
    iF P g ∧ Calls P g (#[u0] ++ vs) w fun e' w' => ∃ v, e' = .returned v ∧ aZ N M L w0 V t h a e dst E v w' := by
  unfold so at hE
  split at hE
  · rename_i r hl
    obtain ⟨hx, hv⟩ := bT hl
    split at hE
    · rename_i hz
      split at hE
      · rename_i aai fr hca
        split at hE
        · rename_i hfr
          have hIf := hI.freeze fr
          have hxf : bm h (iY h fr) x = some r := by rw [yS hfr]; exact hx
          have hgo : ∀ b, mO (blk x) b → Own M (bm h (iY h fr)) blk b := fun b ⟨g0, hg0, he⟩ => .inr ⟨x, r, g0, hxf, hz, hg0, he.symm⟩
          have hle : ∀ b, ((Own M (bm h (iY h fr)) blk b ∧ ¬ mO (blk x) b) ∨ mO (blk x) b) → Own M (bm h (iY h fr)) blk b := fun b hb => hb.elim (·.1) (hgo b)
          have hargs := hI.IB hca (hI.fI fr) hsz hr
          have hargs' : N7 w (fun b => (Own M (bm h (iY h fr)) blk b ∧ ¬ mO (blk x) b) ∨ mO (blk x) b) aai vs := ⟨hargs.1, fun j d hj => (hargs.2 j d hj).less hle, fun b hb => (hargs.tab b hb).less hle⟩
          have hrow : Ob w (fun b => (Own M (bm h (iY h fr)) blk b ∧ ¬ mO (blk x) b) ∨ mO (blk x) b) (blk x) { r with v := 0 } := by
            have := (hIf.rows x r hxf).2
            cases hg : blk x with
            | none => rw [hg] at this; exact this
            | some g0 =>
              rw [hg] at this hle
              have k0 := this.2
              unfold kq at k0
              rw [gO hl] at k0
              obtain ⟨cs, k1, k2, k3⟩ := k0
              exact ⟨cs, k1, k2, fun j d hj => ⟨(k3 j d hj).1, (k3 j d hj).2.less hle⟩⟩
          have hown : ∀ (r2 : Option Row) b, Own M (er (bm h (iY h fr)) x r2) blk b → (Own M (bm h (iY h fr)) blk b ∧ ¬ mO (blk x) b) ∨ mO (blk x) b := by
            intro r2 b hb
            by_cases hi : mO (blk x) b
            · exact .inr hi
            · refine .inl ⟨?_, hi⟩
              rcases hb with hb | ⟨y, s, g0, hy, hz', hg0, he⟩
              · exact .inl hb
              · by_cases hyx : y = x
                · subst hyx; exact absurd ⟨g0, hg0, he.symm⟩ hi
                · rw [bA _ _ hyx] at hy
                  exact .inr ⟨y, s, g0, hy, hz', hg0, he⟩
          have key : ∀ {rk : RK} {out : Option Row}, Γ.sem g (some (d0, { r with v := 0 })) aai = some (rk, out) → iF P g ∧ Calls P g (#[u0] ++ vs) w fun e' w' => ∃ u, e' = .returned u ∧ cu (mO (blk x)) w w' ∧
              (∀ r1, out = some r1 → Inv N M L w0 blk V t (er (bm h (iY h fr)) x (some { r1 with v := v })) a w' ∧ r1.ty = r.ty) ∧
              (match rk with
               | .same s o n => EM w' (blk x) (.buf 0 0 s o n) u
               | .clean d => RP w' (fun b => (Own M (bm h (iY h fr)) blk b ∧ ¬ mO (blk x) b) ∨ mO (blk x) b) d u
               | .fresh ty s n cells => Bk w w' (fun b => Own M (bm h (iY h fr)) blk b ∧ ¬ mO (blk x) b) (mO (blk x)) u (.fresh ty s n cells)) := by
            intro rk out hs
            obtain ⟨hcalls, hcl⟩ := hΓ.calls g _ aai _ _ hs
            refine ⟨hcl, ?_⟩
            refine (hcalls w (fun b => Own M (bm h (iY h fr)) blk b ∧ ¬ mO (blk x) b) (blk x) u0 vs (fun b hb => hIf.C5 hb.1) (fun b hb hb' => hb'.2 hb) hz (gO (r := r) hl : r.mp = false) hrow (h0 r hl) hargs').mono fun e' w' hg => ?_
            obtain ⟨u, he, hb, ho, hk⟩ := hg
            refine ⟨u, he, hb, fun r1 hr1 => ?_, hk⟩
            subst hr1
            obtain ⟨o1, o2, omp, o3, o4⟩ := ho
            refine ⟨?_, o1⟩
            have := hIf.rewrite (cs := r1.cells) (lst := r1.lst) (fz := r1.fz) (w' := w') hxf hz hb.os hb.tape hb.output hb.size (fun b hb1 hb2 => hb.block b hb1 (fun ⟨g0, hg0, he⟩ => hb2 g0 hg0 he)) (by
              cases hg : blk x with
              | none => rw [hg] at o4; exact o4
              | some g0 =>
                rw [hg] at o3 o4
                obtain ⟨cs, k1, k2, k3⟩ := o4
                simp only at o1
                rw [o1] at k1
                refine ⟨o3 g0 rfl, cs, k1, k2, fun j d hj => ⟨(k3 j d hj).1, (k3 j d hj).2.less fun b hb => ?_⟩⟩
                by_cases hi : mO (some g0) b
                · exact .inr hi
                · exact .inl ⟨hb, hi⟩) (fun h => by rw [o2] at h; cases h)
            have e1 : ({ r1 with v := v } : Row) = ⟨r.v, r.ty, r1.cells, r1.fz, r1.lst, false⟩ := by
              cases r1
              simp only at o1 omp
              simp [o1, hv, omp]
            rw [e1]
            exact this
          split at hE
          · rename_i c r1 hs
            simp only [Option.some.injEq] at hE
            subst hE
            obtain ⟨hcl, hcalls⟩ := key hs
            refine ⟨hcl, hcalls.mono fun e' w' hg => ?_⟩
            obtain ⟨u, he, hb, ho, hk⟩ := hg
            refine ⟨u, he, blk, ?_, ?_⟩
            · rw [fR]; exact (ho r1 rfl).1.weaken fun _ _ h => .inl h
            · rw [fR]; exact bX (RP.less hk (hown _))
          · rename_i s o' n r1 hs
            simp only [Option.some.injEq] at hE
            subst hE
            obtain ⟨hcl, hcalls⟩ := key hs
            refine ⟨hcl, hcalls.mono fun e' w' hg => ?_⟩
            obtain ⟨u, he, hb, ho, hk⟩ := hg
            refine ⟨u, he, blk, ?_, ?_⟩
            · rw [fR]; exact (ho r1 rfl).1.weaken fun _ _ h => .inl h
            · rw [fR]
              exact ⟨.inl hVx, fun r' _ _ => hk.2 ⟨0, 0, [], false, false, false⟩ rfl rfl⟩
          · rename_i ty s n cells hs
            split at hE
            · rename_i d
              split at hE
              · rename_i hd
                simp only [Option.some.injEq] at hE
                subst hE
                obtain ⟨hcl, hcalls⟩ := key hs
                refine ⟨hcl, hcalls.mono fun e' w' hg => ?_⟩
                obtain ⟨u, he, hb, _, hk⟩ := hg
                refine ⟨u, he, ?_⟩
                have := hIf.fresh (e := e) (ty := ty) (s := s) (cells := cells) (n := n) (v := u) (old := some x) (dst := some d) rfl (hV d rfl) (w' := w') ⟨hb.os, hb.tape, hb.output, hb.size, fun k hk hn => hb.block k hk (fun ⟨g0, hg0, he⟩ => hn ⟨x, g0, rfl, hg0, he⟩)⟩ (fun y hy => by cases hy; exact ⟨r, hxf, hz⟩) (by
                  rcases hk with ⟨g, c, cs, h1, h2, h3, h4, h5, h6, h7, h8⟩ | hv
                  · refine .inl ⟨g, c, cs, h1, h2.imp id (fun ⟨g0, hg0, he⟩ => ⟨x, g0, rfl, hg0, he⟩), h3, h4, h5, h6, h7, fun j y hj => ⟨(h8 j y hj).1, ?_⟩⟩
                    refine (h8 j y hj).2.less fun b hb => ?_
                    rcases hb with hb | hb
                    · refine .inl ⟨?_, ?_⟩
                      · rcases hb with hb | ⟨z, s', g0, hz1, hz2, hz3, hz4⟩
                        · exact .inl hb
                        · simp only [forget] at hz1
                          by_cases hzx : z = x
                          · subst hzx; simp [er] at hz1
                          · rw [bA _ _ hzx] at hz1
                            exact .inr ⟨z, s', g0, hz1, hz2, hz3, hz4⟩
                      · rintro ⟨g1, hg1, he1⟩
                        rcases hb with hb | ⟨z, s', g0, hz1, hz2, hz3, hz4⟩
                        · rw [he1] at hb
                          exact hIf.notM hxf hg1 hb
                        · simp only [forget] at hz1
                          by_cases hzx : z = x
                          · subst hzx; simp [er] at hz1
                          · rw [bA _ _ hzx] at hz1
                            exact hzx (hIf.inj z x s' r g0 g1 hz1 hxf hz3 hg1 (hz4.trans he1))
                    · exact .inr hb
                  · exact .inr hv)
                unfold aZ
                have e1 : iY h fr ++ [(x, none), (d, some ⟨e, ty, cells, false, true, false⟩)] = (iY h fr ++ [(x, none)]) ++ [(d, some ⟨e, ty, cells, false, true, false⟩)] := by simp
                rw [e1, fR, fR]
                exact this
              · cases hE
            · cases hE
          · cases hE
        · cases hE
      · cases hE
    · cases hE
  · cases hE
inductive lI (Q:D→Value→Prop):List D→List Value→Prop
 | nil:lI Q [] []
 | cons {d:D} {u:Value} {ds:List D} {us:List Value} (h:Q d u) (hs:lI Q ds us):lI Q (d::ds) (u::us)
theorem lI.length {Q:D→Value→Prop} {ds:List D} {us:List Value} (h:lI Q ds us):us.length=ds.length:=by
 induction h with
 | nil=>rfl
 | cons h hs ih=>simp[ih]
theorem lI.of {Q:D→Value→Prop} : ∀ {ds:List D} {us:List Value},us.length=ds.length→(∀(j:Nat) d,ds[j]? = some d→Q d (us.getD j undef))→lI Q ds us
 | [],[],_,_ =>.nil
 | [],_::_,h,_=>by simp at h
 | _::_,[],h,_=>by simp at h
 | d::ds,u::us,h,hq =>.cons (by simpa using hq 0 d rfl) (lI.of (by simpa using h) fun j x hj=>by simpa using hq (j+1) x (by simpa using hj))
theorem lI.at_ {Q:D→Value→Prop} {ds:List D} {us:List Value} (h:lI Q ds us):∀(j:Nat) d,ds[j]? = some d→∃u,us[j]? = some u∧Q d u:=by
 induction h with
 | nil=>intro j d hj;simp at hj
 | cons h hs ih =>
  intro j d hj
  cases j with
  | zero=>simp only[List.getElem?_cons_zero,Option.some.injEq]at hj;subst hj;exact⟨_,rfl,h⟩
  | succ j=>simp only[List.getElem?_cons_succ]at hj ⊢;exact ih j d hj
theorem lI.append {Q:D→Value→Prop} {ds ds':List D} {us us':List Value} (h:lI Q ds us) (h':lI Q ds' us'):lI Q (ds++ds') (us++us'):=by
 induction h with
 | nil=>exact h'
 | cons h hs ih=>exact .cons h ih
theorem lI.take {Q:D→Value→Prop} {ds:List D} {us:List Value} (h:lI Q ds us):∀n:Nat,lI Q (ds.take n) (us.take n):=by
 induction h with
 | nil=>intro n;simp;exact .nil
 | cons h hs ih =>
  intro n
  cases n with
  | zero=>exact .nil
  | succ n=>exact .cons h (ih n)
theorem lI.drop {Q:D→Value→Prop} {ds:List D} {us:List Value} (h:lI Q ds us):∀n:Nat,lI Q (ds.drop n) (us.drop n):=by
 induction h with
 | nil=>intro n;simp;exact .nil
 | cons h hs ih =>
  intro n
  cases n with
  | zero=>exact .cons h hs
  | succ n=>exact ih n
theorem lI.mono {Q Q':D→Value→Prop} {ds:List D} {us:List Value} (h:lI Q ds us) (hq:∀d u,Q d u→Q' d u):lI Q' ds us:=by
 induction h with
 | nil=>exact .nil
 | cons h hs ih=>exact .cons (hq _ _ h) ih
theorem Inv.Yw (hI:Inv N M L w0 blk V t h a w) {x v s n:Nat} {r:Row} {u:Value} (hl:live h x v=some r) (hr:RT w (Own M h blk) h blk V (.buf x v s 0 n) u) :
  ∃cs,yG w r.ty s (blk x) u n cs∧lI (fun d u=>aY d=true∧RP w (Own M h blk) d u) r.cells cs:=by
 obtain⟨hx,hv⟩:=bT hl
 rcases hr.2 r hx hv with⟨g,o',c,N',ty,k0,rfl,k2,k3,k4,k5⟩|⟨k0,rfl,A,rfl⟩
 ·obtain⟨arr,h1,h2,h3⟩:=hI.Eg hx k0 (gO hl)
  obtain⟨k6,k7⟩:=k2 (.inr rfl)
  have hN:N'=arr.size:=by
   simp only[World.shape?,h1,Option.some.injEq,Prod.mk.injEq]at k5
   exact k5.2.symm
  rw[Nat.add_zero]at k6
  subst k6
  refine⟨(List.range r.cells.length).map fun j=>arr.getD (g.2+j) undef,.inl ⟨g,c,arr,k0,rfl,h1,by omega,k3,k4,fun j y hj =>?_⟩,lI.of (by simp) fun j d hj =>?_⟩
  ·rw[List.getElem?_map,Option.map_eq_some_iff]at hj
   obtain⟨i,hi,rfl⟩:=hj
   have hlt:=(List.getElem?_eq_some_iff.1 hi).1
   rw[List.getElem?_range (by simpa using hlt)]at hi
   cases hi
   simp only[List.length_range]at hlt
   rw[Array.getD_eq_getD_getElem?,Array.getElem?_eq_getElem (show g.2+j<arr.size by omega)]
   rfl
  ·have hlt:=(List.getElem?_eq_some_iff.1 hj).1
   have:=h3 j d hj
   simpa [List.getD,hlt] using this
 ·have:=(hI.rows x r hx).2
  rw[k0]at this
  have hc:r.cells=[]:=this
  exact⟨[],.inr ⟨k0,rfl,rfl,A,rfl⟩,by rw[hc];exact .nil⟩
theorem Sh {g:Nat} {p:Nat×Nat×Nat} (hins:RF P g p) (hI:Inv N M L w0 blk V t h a w) {dst:Option Nat} {E:dS} {ds:List D} {vs:Array Value} (hE:sn h e dst p ds=some E) (hV:∀d,dst=some d→kn N V d e) (hsz:vs.size=ds.length)
  (hr:∀(j:Nat) d,ds[j]? = some d→RT w (Own M h blk) h blk V d (vs.getD j undef)):iF P g∧Calls P g vs w fun e' w'=>∃v,e'=.returned v∧aZ N M L w0 V t h a e dst E v w':=by
 refine⟨hins.callable,?_⟩
 unfold sn at hE
 split at hE<;>try (cases hE;done)
 rename_i x v s o n i y v' s' o' m
 split at hE<;>try (cases hE;done)
 rename_i r r' d hl hl'
 split at hE<;>try (cases hE;done)
 rename_i hc
 obtain⟨hz,hz',hlst,hlst',hxy,rfl,rfl,hty,hty',rfl,rfl,hlen,hlen',hi0,hi1,hm0,hmax⟩:=hc
 simp only[Option.some.injEq]at hE
 subst hE
 obtain⟨hx,hv⟩:=bT hl
 obtain⟨hy,hv'⟩:=bT hl'
 have hvs:vs = #[vs.getD 0 undef,vs.getD 1 undef,vs.getD 2 undef]:=by
  simp only[List.length_cons,List.length_nil]at hsz
  apply Array.ext
  ·simp[hsz]
  ·intro j h1 h2
   have:j=0∨j=1∨j=2:=by omega
   rcases this with rfl|rfl|rfl<;>simp[Array.getElem?_eq_getElem h1]
 have h0:=hr 0 _ rfl
 have h1:=kb (hr 1 _ rfl)
 have h2:=hr 2 _ rfl
 obtain⟨cs,a1,a2⟩:=hI.Yw hl h0
 obtain⟨cs',b1,b2⟩:=hI.Yw hl' h2
 rw[hty]at a1
 rw[hty']at b1
 have hone:∀ {ds:List D} {us:List Value},lI (fun d u=>aY d=true∧RP w (Own M h blk) d u) ds us→∀u∈us,u.oneCell'=true:=by
  intro ds us hR
  induction hR with
  | nil=>intro u hu;simp at hu
  | cons h hs ih =>
   intro u hu
   rcases List.mem_cons.1 hu with rfl|hu
   ·exact h.2.Ba h.1
   ·exact ih u hu
 rw[hvs,h1,show i=((i.toNat:Nat):Int) by omega]
 refine (hins.calls w (blk x) (blk y) _ _ i.toNat n m cs cs' a1 b1 (fun g g' hg hg' he=>hxy (hI.inj x y r r' g g' hx hy hg hg' he)) (by rw[a2.length,hlen]) (by rw[b2.length,hlen']) (hone a2) (hone b2) (by omega) hm0 hmax).mono fun e' w' hg =>?_
 obtain⟨u,he,hb,g,c,arr,rfl,g1,g2,g3,g4,g5,g6⟩:=hg
 refine⟨_,he,?_⟩
 have hId:=hI.drop y
 have hxd:er h y none x=some r:=by rw[bA _ _ hxy];exact hx
 have hRel:lI (fun d u=>aY d=true∧RP w (Own M h blk) d u) (r.cells.take (i.toNat*p.2.1)++(r'.cells++r.cells.drop (i.toNat*p.2.1))) (cs.take (i.toNat*p.2.1)++(cs'++cs.drop (i.toNat*p.2.1))):=(a2.take _).append (b2.append (a2.drop _))
 have hown:∀b,Own M (forget (er h y none) (some x)) blk b→Own M h blk b:=by
  intro b hb
  rcases wX hb with hb|⟨z,q,g0,hz1,hz2,hz3,hz4⟩
  ·exact .inl hb
  ·by_cases hzy:z=y
   ·subst hzy;simp[er]at hz1
   ·rw[bA _ _ hzy]at hz1
    exact .inr ⟨z,q,g0,hz1,hz2,hz3,hz4⟩
 have hin:∀b,mO (blk x) b→Own M h blk b:=fun b ⟨g0,hg0,hb0⟩ =>.inr ⟨x,r,g0,hx,hz,hg0,hb0.symm⟩
 have hfin:=hId.fresh (e:=e) (ty:=p.1) (s:=p.2.1) (cells:=r.cells.take (i.toNat*p.2.1)++(r'.cells++r.cells.drop (i.toNat*p.2.1))) (n:=n+m) (v := .slice (some ⟨g.1,g.2,none⟩) (n+m) c) (old:=some x) (dst:=some d) rfl (hV d rfl) (w':=w')
  ⟨hb.os,hb.tape,hb.output,hb.size,fun k hk hn=>hb.block k hk (fun⟨g0,hg0,he⟩=>hn ⟨x,g0,rfl,hg0,he⟩)⟩ (fun z hz1=>by cases hz1;exact⟨r,hxd,hz⟩)
  (.inl ⟨g,c,arr,rfl,g1.imp id (fun⟨g0,hg0,he⟩=>⟨x,g0,rfl,hg0,he⟩),g2,g3,g4,g5,?_,fun j d' hj =>?_⟩)
 ·unfold aZ
  exact hfin
 ·have hpos:=hins.pos
  have e1:(cs.take (i.toNat*p.2.1)++(cs'++cs.drop (i.toNat*p.2.1))).length=(r.cells.take (i.toNat*p.2.1)++(r'.cells++r.cells.drop (i.toNat*p.2.1))).length:=hRel.length
  have e2:(r.cells.take (i.toNat*p.2.1)++(r'.cells++r.cells.drop (i.toNat*p.2.1))).length=(n+m)*p.2.1:=by
   have:=Nat.mul_le_mul_right p.2.1 (show i.toNat≤n by omega)
   rw[List.length_append,List.length_append,List.length_take,List.length_drop,hlen,hlen',Nat.min_eq_left this,Nat.add_mul]
   omega
  rw[e2]
  have:=Nat.mul_le_mul_right p.2.1 g3
  omega
 ·obtain⟨u,hu,hq1,hq2⟩:=hRel.at_ j d' hj
  have hau:=g6 j u hu
  refine⟨hq1,?_⟩
  rw[Array.getD_eq_getD_getElem?,hau]
  refine hq2.keep fun b q1 q2=>⟨Nat.lt_of_lt_of_le q1 hb.size,?_,hb.block b q1 (fun hn=>q2 (hin b hn))⟩
  rintro (hn|rfl)
  ·exact q2 (hown b hn)
  ·rcases g1 with g1|g1
   ·omega
   ·exact q2 (hin _ g1)
theorem Sg {g:Nat} {p:Grow} (hgr:Bl P g p) (hI:Inv N M L w0 blk V t h a w) (hP:∀x v,V x v→x<N) {dst:Option Nat} {E:dS} {ds:List D} {vs:Array Value} (hE:sk h p ds=some E) (hsz:vs.size=ds.length)
  (hr:∀(j:Nat) d,ds[j]? = some d→RT w (Own M h blk) h blk V d (vs.getD j undef)):iF P g∧Calls P g vs w fun e' w'=>∃v,e'=.returned v∧aZ N M L w0 V t h a e dst E v w':=by
 refine⟨hgr.callable,?_⟩
 unfold sk at hE
 split at hE<;>try (cases hE;done)
 rename_i y v k rest
 split at hE<;>try (cases hE;done)
 rename_i ry k' s n r hlp hk
 split at hE<;>try (cases hE;done)
 rename_i hcond
 obtain⟨rfl,hkp,hryf,hrm,hrf,hrl,rfl,hrt,hlen,hmax⟩:=hcond
 split at hE<;>try (cases hE;done)
 rename_i cs hsem
 simp only[Option.some.injEq]at hE
 subst hE
 obtain⟨hy,hv,hmp,hcs⟩:=wT hlp
 obtain⟨f1,f2,f3,f4⟩:=hgr.flat _ _ _ hsem
 have h0:=hr 0 _ rfl
 obtain⟨gy,hgy,hu0⟩:=h0.2 ry hy hv
 have hri:=hI.rowIs hy hgy
 unfold kq at hri
 rw[hmp]at hri
 rcases hri with⟨_,_,hcc,_⟩|⟨_,_,_,_,ya,y1,y2⟩
 ·rw[hcs]at hcc;cases hcc
 obtain⟨_,u,hcell,hph⟩:=hI.pha y ry gy hy hmp hgy _ _ _ hcs
 have hyu:ya[gy.2]? = some u:=by
  rw[bz y1 y2]at hcell
  rw[Option.some.injEq,Array.getD_eq_getD_getElem?,Array.getElem?_eq_getElem y2]at hcell
  rw[Array.getElem?_eq_getElem y2,← hcell]
  rfl
 have hbig:=hI.big
 have hpk:PK=1000000:=rfl
 have hyk:y≠k':=by omega
 have hsl:yG w p.ty p.k (blk k') u n (r.cells.map AX):=by
  rcases hph r hk with⟨g',c,N',ty',g0,rfl,g2,g3,g4,g5⟩|⟨g0,rfl,A,rfl⟩
  ·obtain⟨arr,k1,k2,k3⟩:=hI.Eg hk g0 hrm
   rw[hrt]at k1
   refine .inl ⟨g',c,arr,g0,rfl,k1,?_,g3,g4,fun j x hj =>?_⟩
   ·simp only[World.shape?,k1,Option.some.injEq,Prod.mk.injEq]at g5
    omega
   ·rw[List.getElem?_map,Option.map_eq_some_iff]at hj
    obtain⟨d,hj,rfl⟩:=hj
    have hlt:=(List.getElem?_eq_some_iff.1 hj).1
    have:=FQ (f1 d (List.mem_of_getElem? hj)) (k3 j d hj).2
    rw[Array.getElem?_eq_getElem (by omega),← this,Array.getD_eq_getD_getElem?,Array.getElem?_eq_getElem (by omega)]
    rfl
  ·have:=(hI.rows k' r hk).2
   rw[g0]at this
   have hc:r.cells=[]:=this
   exact .inr ⟨g0,rfl,by rw[hc];rfl,A,rfl⟩
 have hgne:∀g,blk k'=some g→g.1≠gy.1:=fun g hg he=>hyk (hI.inj y k' ry r gy g hy hk hgy hg he.symm)
 have hvs:vs = #[.pointer (some ⟨gy.1,gy.2,none⟩)]++(rest.map VR).toArray:=by
  apply Array.ext
  ·simp at hsz ⊢;omega
  ·intro j h1 h2
   cases j with
   | zero =>
    simp only[Array.getD_eq_getD_getElem?,Array.getElem?_eq_getElem h1,Option.getD_some,Nat.add_zero]at hu0
    simp[hu0]
   | succ j =>
    have hj:j<rest.length:=by simp at hsz;omega
    have hd:=hr (j+1) _ (by rw[List.getElem?_cons_succ];exact List.getElem?_eq_getElem hj)
    have hfl:=f2 _ (List.getElem_mem hj)
    have hrp:RP w (Own M h blk) rest[j] (vs.getD (j+1) undef):=by
     revert hd hfl
     generalize rest[j]=d
     intro hd hfl
     cases d<;>first|exact hd|cases hfl
    have:=Qu hfl hrp
    simp only[Array.getD_eq_getD_getElem?,Array.getElem?_eq_getElem h1,Option.getD_some]at this
    rw[this]
    simp[Array.getElem_append]
 rw[hvs]
 refine (hgr.calls w gy ya ry.ty (blk k') u n r.cells rest cs y1 hyu hsl hgne hlen hsem hmax).mono fun e' w' hpost =>?_
 obtain⟨he,hb,g,c,arr,q1,q2,q3,q4,q5,q6,q7⟩:=hpost
 refine⟨_,he,er blk k' (some g),?_,RP.int _ _⟩
 have hV0:∀v,¬V k' v:=fun v hv=>by have:=hP _ _ hv;omega
 generalize hnu:Value.slice (some ⟨g.1,g.2,none⟩) (n+1) c=nu at q2
 have hw1:(w.setRow gy.1 (ya.setIfInBounds gy.2 nu)).heap[gy.1]? = some (.cells (ya.setIfInBounds gy.2 nu) ry.ty (0,0)):=setRow_heap w gy.1 ya _ ry.ty (0,0) y1
 have hhs:(w.setRow gy.1 (ya.setIfInBounds gy.2 nu)).heap.size=w.heap.size:=by simp[World.setRow]
 have hheap:∀b,b≠gy.1→(w.setRow gy.1 (ya.setIfInBounds gy.2 nu)).heap[b]? = w.heap[b]?:=by
  intro b hb
  simp only[World.setRow,Array.getElem?_modify]
  rw[if_neg (Ne.symm hb)]
 have hI0:=hI.um (r0:=⟨ry.v,ry.ty,[],false,false,false⟩) (w':=w.setRow gy.1 (ya.setIfInBounds gy.2 nu)) hy hryf rfl rfl rfl rfl (by rw[hhs];exact Nat.le_refl _) (fun b _ hb=>hheap b (hb gy hgy)) (by
  rw[hgy]
  exact⟨by simp[World.shape?,hw1,y1],_,hw1,by simp;omega,fun j d hj=>by simp at hj⟩) (fun h=>by cases h)
 have hk0:er h y (some (⟨ry.v,ry.ty,[],false,false,false⟩:Row)) k'=some r:=by rw[bA _ _ (Ne.symm hyk)];exact hk
 have hA:=hI0.RZ (w':=w') (h1:=forget (er h y (some ⟨ry.v,ry.ty,[],false,false,false⟩)) (some k')) (old:=some k') (d:=k') (r0:=⟨r.v,p.ty,r.cells++cs,false,true,false⟩) (go:=some g) (y0:=y) hb.os hb.tape hb.output (by rw[hhs];exact hb.size)
  (fun b hlt hn=>by
   by_cases hbg:b=gy.1
   ·subst hbg;rw[q2,hw1]
   ·rw[hheap b hbg]
    refine hb.block b (by rw[hhs]at hlt;exact hlt) ?_
    rintro (hh|⟨g0,hg0,hh⟩)
    ·exact hbg hh
    ·exact hn k' g0 rfl hg0 hh) (fun y' hy'=>by cases hy';exact⟨r,hk0,hrf⟩) rfl hkp hV0
  (fun r' hr'=>by
   simp only[forget]at hr'
   rw[bA _ _ hyk,bB]at hr'
   cases hr'
   rfl) (by
  refine⟨q1.imp (fun hh=>by rw[hhs];exact hh) (fun⟨g0,hg0,hh⟩=>⟨k',g0,rfl,hg0,hh⟩),arr,q3,?_,fun j d hj =>?_⟩
  ·simp only[List.length_append,f4,hlen]
   have:=Nat.mul_le_mul_right p.k q4
   rw[Nat.add_mul]at this
   omega
  ·have hfd:vW d=true:=by
    rcases List.mem_append.1 (List.mem_of_getElem? hj) with hm|hm
    ·exact f1 d hm
    ·exact f3 d hm
   have hx:=q7 j (AX d) (by rw[List.getElem?_map];simp only at hj;rw[hj];rfl)
   have:arr.getD (g.2+j) undef=AX d:=by rw[Array.getD_eq_getD_getElem?,hx];rfl
   rw[this]
   exact SP hfd) rfl
 have hyB:er (forget (er h y (some (⟨ry.v,ry.ty,[],false,false,false⟩:Row))) (some k')) k' (some (⟨r.v,p.ty,r.cells++cs,false,true,false⟩:Row)) y=some ⟨ry.v,ry.ty,[],false,false,false⟩:=by
  rw[bA _ _ hyk]
  simp only[forget]
  rw[bA _ _ hyk,bB]
 have hgB:er blk k' (some g) y=some gy:=by rw[bA _ _ hyk,hgy]
 have hsz2:gy.2<(ya.setIfInBounds gy.2 nu).size:=by simpa using y2
 have hB:=hA.um (r0:=⟨ry.v,ry.ty,[.ph k' p.k (n+1)],false,false,true⟩) (w':=w') hyB rfl rfl rfl rfl rfl (Nat.le_refl _) (fun b _ _=>rfl) (by
  rw[hgB]
  exact⟨rfl,.inr ⟨_,_,_,rfl,_,q2,hsz2⟩⟩) (fun h=>by cases h) (fun _ g' hg' x' s' n' hc=>by
  rw[hgB]at hg'
  cases hg'
  simp only[List.cons.injEq,D.ph.injEq,and_true]at hc
  obtain⟨rfl,rfl,rfl⟩:=hc
  refine⟨hkp,nu,?_,fun r' _ =>.inl ⟨g,c,arr.size,p.ty,bB _ _ _,hnu.symm,q6,q4,q5,by simp[World.shape?,q3]⟩⟩
  rw[bz q2 hsz2]
  simp[Array.getD_eq_getD_getElem?,y2])
 have heq:bm h [(k',some (⟨r.v,p.ty,r.cells++cs,false,true,false⟩:Row)),(y,some ⟨ry.v,ry.ty,[.ph k' p.k (n+1)],false,false,true⟩)]=er (er (forget (er h y (some (⟨ry.v,ry.ty,[],false,false,false⟩:Row))) (some k')) k' (some (⟨r.v,p.ty,r.cells++cs,false,true,false⟩:Row))) y (some ⟨ry.v,ry.ty,[.ph k' p.k (n+1)],false,false,true⟩):=by
  funext z
  simp only[bm,forget,er]
  by_cases hzy:z=y
  ·rw[if_pos hzy,if_pos hzy]
  ·rw[if_neg hzy,if_neg hzy]
   by_cases hzk:z=k'
   ·rw[if_pos hzk,if_pos hzk]
   ·rw[if_neg hzk,if_neg hzk,if_neg hzk,if_neg hzy]
 show Inv _ _ _ _ _ _ _ (bm h _) _ _
 rw[heq]
 exact hB.weaken fun _ _ h =>.inl h
theorem Qk (hΓ:bN P Γ) (hI:Inv N M L w0 blk V t h a w) {c:Call} {f:Operand} {E:dS} (ho:o.op=.call c) (hc:c.callee=.value f) (hV:∀d,o.dst=some d→kn N V d e) (hP:∀x v,V x v→x<N) (hE:gM Γ h e o.dst (ev t f) (c.args.toList.map (ev t))=some E):fQ P o a w (aZ N M L w0 V t h a e o.dst E):=by
 have hf:=hI.ev f
 have hargs:∀(j:Nat) d,(c.args.toList.map (ev t))[j]? = some d→RT w (Own M h blk) h blk V d ((c.args.map a.eval).getD j undef):=by
  intro j d hj
  rw[List.getElem?_map]at hj
  cases hx:c.args.toList[j]? with
  | none=>simp[hx]at hj
  | some x =>
   simp only[hx,Option.map_some,Option.some.injEq]at hj
   subst hj
   have:(c.args.map a.eval).getD j undef=a.eval x:=by
    have hx':c.args[j]? = some x:=by simpa using hx
    simp[hx']
   rw[this]
   exact hI.ev x
 have hsz:(c.args.map a.eval).size=(c.args.toList.map (ev t)).length:=by simp
 have hrun:∀ {g:Nat} {fs caps:Array Value},a.eval f=.func (.func g) fs caps→iF P g→(execOp a.eval o).run P w=.ok (.enter g (fs++c.args.map a.eval++caps)) w:=by
  intro g fs caps hfv ⟨fn,hfn,hname,hbody⟩
  have hn:¬fn.name = "runtime.NumGoroutine":=by simpa using hname
  have hb:¬fn.body=none:=by
   intro h0
   rw[h0]at hbody
   cases hbody
  simp[execOp,ho,resolve,hc,hfv,Deferred.ofValue,invoke,callFunc,program,Sem.run,hfn,hn,hb]
 generalize c.args.toList.map (ev t)=ds at *
 generalize c.args.map a.eval=vs at *
 generalize ev t f=q at *
 have done:∀ {g:Nat} {fs caps:Array Value} {args:Array Value},a.eval f=.func (.func g) fs caps→args=fs++vs++caps→(iF P g∧Calls P g args w fun e' w'=>∃v,e'=.returned v∧aZ N M L w0 V t h a e o.dst E v w')→fQ P o a w (aZ N M L w0 V t h a e o.dst E) :=
  fun hfv hargs ⟨h1,h2⟩ =>.inr (.inr ⟨_,_,hargs ▸ hrun hfv h1,h2⟩)
 cases q with
 | fn g =>
  have hfv:a.eval f=.func (.func g) #[] #[]:=by
   have hf':RP w (Own M h blk) (.fn g) (a.eval f):=hf
   generalize a.eval f=u at *
   cases hf'
   rfl
  simp only[gM]at hE
  split at hE
  ·rename_i p hp
   exact done hfv (by simp) (Sh (hΓ.ins g p hp) hI hE hV hsz hargs)
  split at hE
  ·rename_i p hp
   exact done hfv (by simp) (Sg (hΓ.grw g p hp) hI hP hE hsz hargs)
  split at hE
  ·split at hE
   ·rename_i x v s c0 n rest
    have hsz':(vs.extract 1 vs.size).size=rest.length:=by simp at hsz ⊢;omega
    have hvs:vs = #[vs.getD 0 undef]++vs.extract 1 vs.size:=by
     have:0<vs.size:=by simp at hsz;omega
     apply Array.ext
     ·simp;omega
     ·intro i h1 h2
      cases i with
      | zero=>simp[Array.getElem?_eq_getElem this]
      | succ i=>simp[Array.getElem_append];congr 1;omega
    have h0:=hargs 0 _ rfl
    refine done hfv (by simpa using hvs.symm) (IP hΓ hI hE hV h0.1 (fun r hl=>(hI.Wm hl).1 _ _ _ h0) hsz' (fun j d hj =>?_))
    have:=hargs (j+1) d (by simpa using hj)
    have e1:(vs.extract 1 vs.size).getD j undef=vs.getD (j+1) undef:=by
     simp only[Array.getD_eq_getD_getElem?]
     congr 1
     rw[Array.getElem?_extract]
     split
     ·congr 1;omega
     ·rename_i hh;rw[Array.getElem?_eq_none (by omega)]
    rw[e1];exact this
   ·rename_i x v c0 rest
    have hsz':(vs.extract 1 vs.size).size=rest.length:=by simp at hsz ⊢;omega
    have hvs:vs = #[vs.getD 0 undef]++vs.extract 1 vs.size:=by
     have:0<vs.size:=by simp at hsz;omega
     apply Array.ext
     ·simp;omega
     ·intro i h1 h2
      cases i with
      | zero=>simp[Array.getElem?_eq_getElem this]
      | succ i=>simp[Array.getElem_append];congr 1;omega
    have h0:=hargs 0 _ rfl
    refine done hfv (by simpa using hvs.symm) (IP hΓ hI hE hV h0.1 (fun r hl=>(hI.Wm hl).2 _ h0) hsz' (fun j d hj =>?_))
    have:=hargs (j+1) d (by simpa using hj)
    have e1:(vs.extract 1 vs.size).getD j undef=vs.getD (j+1) undef:=by
     simp only[Array.getD_eq_getD_getElem?]
     congr 1
     rw[Array.getElem?_extract]
     split
     ·congr 1;omega
     ·rename_i hh;rw[Array.getElem?_eq_none (by omega)]
    rw[e1];exact this
   ·cases hE
  ·exact done hfv (by simp) (IL hΓ hI hE hV hsz hargs)
 | clo g kk caps =>
  obtain⟨us,k1,k2,k3⟩:=hf
  simp only[gM]at hE
  by_cases hok:caps.all ja=true
  rotate_left
  ·rw[if_neg hok]at hE;cases hE
  rw[if_pos hok]at hE
  have hus:((us.take kk).toArray++vs++(us.drop kk).toArray).toList=us.take kk++(vs.toList++us.drop kk):=by simp
  have hl1:(us.take kk).length=(caps.take kk).length:=by rw[List.length_take,List.length_take,k2]
  have hsz':vs.toList.length=ds.length:=by simpa using hsz
  refine done k1 rfl (IL hΓ hI hE hV (by simp[hsz,k2]) (fun j d hj =>?_))
  have hget:((us.take kk).toArray++vs++(us.drop kk).toArray).getD j undef=(us.take kk++(vs.toList++us.drop kk)).getD j undef:=by
   rw[← hus,Array.getD_eq_getD_getElem?,List.getD_eq_getElem?_getD,Array.getElem?_toList]
  rw[hget,List.getD_eq_getElem?_getD]
  rw[List.getElem?_append]at hj ⊢
  rw[hl1]
  split at hj
  ·rename_i hlt
   rw[if_pos hlt]
   have hj2:j<kk:=by rw[List.length_take]at hlt;omega
   rw[List.getElem?_take,if_pos hj2]at hj ⊢
   have:=Bm (k3 _ d hj)
   rwa [List.getD_eq_getElem?_getD]at this
  ·rename_i hlt
   rw[if_neg hlt]
   rw[List.getElem?_append]at hj ⊢
   rw[hsz']
   split at hj
   ·rename_i hlt2
    rw[if_pos hlt2]
    have:=hargs _ d hj
    rw[Array.getD_eq_getD_getElem?]at this
    simpa using this
   ·rename_i hlt2
    rw[if_neg hlt2]
    rw[List.getElem?_drop]at hj ⊢
    have:=Bm (k3 _ d hj)
    rwa [List.getD_eq_getElem?_getD]at this
 | _=>simp[gM]at hE
theorem RT.ZG {d:D} {n:Nat} {u:Value} (hI:Inv N M L w0 blk V t h a w) (hl:xO d=some n) (ha:alive h d=true) (hr:RT w (Own M h blk) h blk V d u) :
  (∀s,d=.str s→u=.string s∧s.size=n)∧((∀s,d ≠ .str s)→∃A c,u=.slice A n c):=by
 cases d with
 | str s =>
  simp only[xO,Option.some.injEq]at hl
  refine⟨fun s' hs =>?_,fun hn=>absurd rfl (hn s)⟩
  cases hs
  exact⟨Bp hr,hl⟩
 | sl nl tight m xs =>
  simp only[xO,Option.some.injEq]at hl
  subst hl
  refine⟨fun s' hs=>(by cases hs),fun _ =>?_⟩
  have hr':RP w (Own M h blk) (.sl nl tight m xs) u:=hr
  cases hr' with
  | sl A c nl tight n xs us h1 h2 h3 h4 h5 h6 h7 h8=>exact⟨A,c,rfl⟩
 | buf x v s o m =>
  simp only[xO,Option.some.injEq]at hl
  subst hl
  refine⟨fun s' hs=>(by cases hs),fun _ =>?_⟩
  simp only[alive,Option.isSome_iff_exists]at ha
  obtain⟨r,hr'⟩:=ha
  obtain⟨hx,hv⟩:=bT hr'
  rcases hr.2 r hx hv with⟨g,o',c,N',t',_,g1,_⟩|⟨_,rfl,A,g1⟩
  ·exact⟨_,c,g1⟩
  ·exact⟨A,0,g1⟩
 | _=>simp[xO]at hl
theorem Lv (k:IntKind):∀(ds:List D) (us:List Value) (x z:Int),wV (fun x y=>if y>x then y else x) k x ds=some z→us.length=ds.length→(∀j d,ds[j]? = some d→RT w (Own M h blk) h blk V d (us.getD j undef)) →
  (us.foldlM Builtin.max2 (.int k x)).run P w=.ok (.int k z) w
 | [],us,x,z,hm,hl,_=>by
  have:us=[]:=List.eq_nil_of_length_eq_zero hl
  subst this
  simp only[wV,Option.some.injEq]at hm
  subst hm
  rfl
 | d::ds,us,x,z,hm,hl,hr=>by
  cases us with
  | nil=>simp at hl
  | cons u us =>
   have hu:=hr 0 d rfl
   cases d with
   | int k' y =>
    simp only[wV]at hm
    split at hm
    ·have hu':=kb hu
     simp only[List.getD_cons_zero]at hu'
     subst hu'
     have ih:=Lv k ds us _ z hm (by simpa using hl) (fun j d hj=>by simpa using hr (j+1) d (by simpa using hj))
     simp only[List.foldlM_cons,Sem.run_bind,Builtin.max2,Sem.run_pure,Result.andThen_ok]
     exact ih
    ·cases hm
   | _=>simp[wV]at hm
theorem Lw (k:IntKind):∀(ds:List D) (us:List Value) (x z:Int),wV (fun x y=>if y<x then y else x) k x ds=some z→us.length=ds.length→(∀j d,ds[j]? = some d→RT w (Own M h blk) h blk V d (us.getD j undef)) →
  (us.foldlM Builtin.min2 (.int k x)).run P w=.ok (.int k z) w
 | [],us,x,z,hm,hl,_=>by
  have:us=[]:=List.eq_nil_of_length_eq_zero hl
  subst this
  simp only[wV,Option.some.injEq]at hm
  subst hm
  rfl
 | d::ds,us,x,z,hm,hl,hr=>by
  cases us with
  | nil=>simp at hl
  | cons u us =>
   have hu:=hr 0 d rfl
   cases d with
   | int k' y =>
    simp only[wV]at hm
    split at hm
    ·have hu':=kb hu
     simp only[List.getD_cons_zero]at hu'
     subst hu'
     have ih:=Lw k ds us _ z hm (by simpa using hl) (fun j d hj=>by simpa using hr (j+1) d (by simpa using hj))
     simp only[List.foldlM_cons,Sem.run_bind,Builtin.min2,Sem.run_pure,Result.andThen_ok]
     exact ih
    ·cases hm
   | _=>simp[wV]at hm
end
section
variable {P:Program} {T:Nat→Option Ty} {N:Nat} {M:Nat→Prop} {L:sS} {w0:World} {blk:Nat→Option (Nat×Nat)} {V:Nat→Nat→Prop} {t:Nat→D} {h:Nat→Option Row} {a:Act} {w:World} {e:Nat} {o:Oper} {Γ:Env}
theorem Inv.content (hI:Inv N M L w0 blk V t h a w) {d:D} {m s:Nat} {news:List D} {u:Value} (hs:0<s) (hc:content h d=some (m,news)) (hl:news.length=m*s) (hr:RT w (Own M h blk) h blk V d u) :
  ∃(A:Option Addr) (c:Nat) (us:List Value),u=.slice A m c∧m≤c∧us.length=news.length∧(∀j x,news[j]? = some x→aY x=true∧RP w (Own M h blk) x (us.getD j undef)) ∧
   (∀ad,A=some ad→∀j v,us[j]? = some v→w.cell? (ad.add j)=some v)∧(A=none→m=0∧c=0):=by
 cases d with
 | sl nl tight n xs =>
  simp only[Am.content,Option.some.injEq,Prod.mk.injEq]at hc
  obtain⟨rfl,rfl⟩:=hc
  have hr':RP w (Own M h blk) (.sl nl tight n xs) u:=hr
  cases hr' with
  | sl A c nl tight n xs us h1 h2 h3 h4 h5 h6 h7 h8 =>
   refine⟨A,c,(List.range xs.length).map us,rfl,h1,by simp,fun j x hj=>⟨h8 x (List.mem_of_getElem? hj),?_⟩,fun ad hA j v hj =>?_,h4⟩
   ·have hlt:=(List.getElem?_eq_some_iff.1 hj).1
    have:((List.range xs.length).map us).getD j undef=us j:=by simp[List.getD,hlt]
    rw[this];exact h7 j x hj
   ·obtain⟨hlt,he⟩:=List.getElem?_eq_some_iff.1 hj
    simp only[List.length_map,List.length_range]at hlt
    simp only[List.getElem_map,List.getElem_range]at he
    have hne:xs≠[]:=by rintro rfl;simp at hlt
    obtain⟨b,o,hA',_,_,g3⟩:=h6 hne
    rw[hA]at hA'
    simp only[Option.some.injEq]at hA'
    subst hA'
    rw[lJ,← he]
    exact g3 j hlt
 | buf x v z q n =>
  simp only[Am.content]at hc
  split at hc
  ·rename_i r hlv
   split at hc
   ·rename_i hle
    simp only[Option.some.injEq,Prod.mk.injEq]at hc
    obtain⟨rfl,rfl⟩:=hc
    rcases hI.xk hlv hr with⟨g,o',c,cs,g0,g1,g2,g3,g4,g5,g7,g8⟩|⟨g0,rfl,g2,A,g3⟩
    ·have hlen:((r.cells.drop q).take (n*z)).length=n*z:=by simp;omega
     rw[hlen]at hl
     refine⟨_,c,(List.range (n*z)).map (fun j=>cs.getD (g.2+(q+j)) undef),g1,g2,by simp;omega,fun j x hj =>?_,fun ad hA j v hj =>?_,fun hA=>by cases hA⟩
     ·rw[cw]at hj
      split at hj
      ·rename_i hjl
       have:((List.range (n*z)).map (fun j=>cs.getD (g.2+(q+j)) undef)).getD j undef=cs.getD (g.2+(q+j)) undef:=by simp[List.getD,hjl]
       rw[this]
       exact g8 _ _ hj
      ·cases hj
     ·obtain⟨hlt,he⟩:=List.getElem?_eq_some_iff.1 hj
      simp only[List.length_map,List.length_range]at hlt
      simp only[List.getElem_map,List.getElem_range]at he
      simp only[Option.some.injEq]at hA
      subst hA
      have hn:0<n:=by
       rcases Nat.eq_zero_or_pos n with h0|h0
       ·subst h0;simp at hlt
       ·exact h0
      have:=(g5 (.inl (by omega))).1
      subst this
      rw[lJ,← he,Nat.add_assoc]
      exact bz g4 (by omega)
    ·refine⟨A,0,[],g3,Nat.le_refl _,by simp,fun j x hj=>by simp at hj,fun ad hA j v hj=>by simp at hj,fun _=>⟨rfl,rfl⟩⟩
   ·cases hc
  ·cases hc
 | _=>simp[Am.content]at hc
theorem appended {M':Nat→Prop} {olds news:List D} {xs us:List Value} {cur:Array Value} {b:Nat} (hxl:xs.length=olds.length) (hul:us.length=news.length) (hcur:(cur.toList.drop b).take (olds.length+news.length)=xs++us)
  (h1:∀j x,olds[j]? = some x→aY x=true∧RP w M' x (xs.getD j undef)) (h2:∀j x,news[j]? = some x→aY x=true∧RP w M' x (us.getD j undef)) (j:Nat) (x:D) (hj:(olds++news)[j]? = some x) :
  aY x=true∧RP w M' x (cur.getD (b+j) undef):=by
 have hlt:j<olds.length+news.length:=by
  have:=(List.getElem?_eq_some_iff.1 hj).1
  simpa using this
 have hg:cur.getD (b+j) undef=(xs++us).getD j undef:=by
  rw[← hcur]
  simp only[List.getD_eq_getElem?_getD,List.getElem?_take,if_pos hlt,List.getElem?_drop]
  simp
 rw[hg]
 by_cases hjo:j<olds.length
 ·rw[List.getElem?_append_left hjo]at hj
  have:(xs++us).getD j undef=xs.getD j undef:=by
   simp only[List.getD_eq_getElem?_getD]
   rw[List.getElem?_append_left (by omega)]
  rw[this];exact h1 j x hj
 ·rw[List.getElem?_append_right (by omega)]at hj
  have:(xs++us).getD j undef=us.getD (j-olds.length) undef:=by
   simp only[List.getD_eq_getElem?_getD]
   rw[List.getElem?_append_right (by omega),hxl]
  rw[this];exact h2 _ x hj
theorem Tz {M':Nat→Prop} {news:List D} {us:List Value} (hul:us.length=news.length) (h2:∀j x,news[j]? = some x→aY x=true∧RP w M' x (us.getD j undef)):∀u∈us,u.oneCell'=true:=by
 intro u hu
 obtain⟨j,hj⟩:=List.getElem?_of_mem hu
 have hlt:=(List.getElem?_eq_some_iff.1 hj).1
 obtain⟨p1,p2⟩:=h2 j _ (List.getElem?_eq_getElem (by omega))
 have:us.getD j undef=u:=by simp[List.getD,hj]
 rw[this]at p2
 exact p2.Ba p1
theorem nc (t ty el:Nat) {τ:Ty} (hd:P.underlying t=some (.slice el)) {φ:Ty} (hφ:dG P el φ) (A B:Option Addr) (n c k:Nat) (hn:n≤c):(Builtin.append_ #[t,t] ty #[.slice A n c,.slice B 0 k]).run P w=.ok (.slice A n c) w:=by
 have hfc:(Builtin.firstCells φ.size 0 (.slice B 0 k)).run P w=.ok #[] w:=by
  cases B with
  | none=>simp[Builtin.firstCells]
  | some b=>simp[Builtin.firstCells,loadCells,loadCellsFrom]
 cases A with
 | none=>simp[Builtin.append_,run_underlying hd,run_sizeOf hφ,Builtin.lenOf,hn,hfc]
 | some b=>simp[Builtin.append_,run_underlying hd,run_sizeOf hφ,Builtin.lenOf,hn,hfc,storeCells]
theorem uo (t ty el:Nat) {φ:Ty} (hd:P.underlying t=some (.slice el)) (hφ:dG P el φ) (hpos:0<φ.size) (hz0:φ.zero.length=φ.size) (A:Option Addr) (n cap:Nat) (xs:List Value) (hxl:xs.length=n*φ.size)
  (hxs:∀ad,A=some ad→∀j u,xs[j]? = some u→w.cell? (ad.add j)=some u) (hA:A=none→n=0∧cap=0) (b:Addr) (m c:Nat) (us:List Value) (hul:us.length=m*φ.size)
  (hus:∀j u,us[j]? = some u→w.cell? (b.add j)=some u) (hg:cap<n+m) (h63:n+m≤maxLen) (hb:(n+m)*φ.bytes≤140737488355328) :
  ∃k vs,(Builtin.append_ #[t,t] ty #[.slice A n cap,.slice (some b) m c]).run P w=.ok (.slice (some ⟨w.heap.size,0,none⟩) (n+m) k) (w.drew.alloc (.cells vs el))∧n+m≤k∧k≤maxLen∧k*φ.size=vs.size∧vs.toList.take ((n+m)*φ.size)=xs++us:=by
 obtain⟨d',i,z,i1,i2,i3,i4,i5,i6,i7⟩:=hφ.get
 have hzs:z.cells.size=φ.size:=by rw[i7];simpa using hz0
 have h63':((n+m:Nat):Int)≤9223372036854775807:=by simp only[maxLen]at h63;omega
 have hlen:(xs++us).length=(n+m)*φ.size:=by rw[List.length_append,hxl,hul,Nat.add_mul]
 have hge:=grownCap_ge w (n+m) cap el
 have hcm:grownCap w (n+m) cap el≤maxLen:=grownCap_le_maxLen w (n+m) cap el h63
 have fin:∀vs:Array Value,vs=xs.toArray++us.toArray++Builtin.zeroCells z.cells (grownCap w (n+m) cap el-(n+m))→grownCap w (n+m) cap el*φ.size=vs.size∧vs.toList.take ((n+m)*φ.size)=xs++us:=by
  intro vs hvs
  subst hvs
  refine⟨?_,?_⟩
  ·simp only[Array.size_append,List.size_toArray,size_zeroCells,hzs,hxl,hul,← Nat.add_mul]
   congr 1
   omega
  ·simp only[Array.toList_append,List.append_assoc]
   rw[← List.append_assoc,← hlen]
   exact List.take_left
 cases A with
 | some ad =>
  have hr:=run_append_grow (P:=P) w t ty el i z hd i3 i6 ad n cap xs (by rw[i4];exact hxl) (hxs ad rfl) b m c us (by rw[i4];exact hul) hus hg h63' (growslice_fits hg (by rw[i5];exact hb))
  obtain⟨f1,f2⟩:=fin _ rfl
  exact⟨_,_,hr,hge,hcm,f1,f2⟩
 | none =>
  obtain⟨rfl,rfl⟩:=hA rfl
  have hx0:xs=[]:=List.eq_nil_of_length_eq_zero (by omega)
  subst hx0
  have hr:=run_append_nil (P:=P) w t ty el i z hd i3 i6 b m c us (by rw[i4];exact hul) hus (by omega) (by simpa using h63') (by rw[i5];simp only[Nat.zero_add]at hb;omega)
  simp only[Nat.zero_add]at hge hcm fin ⊢
  obtain⟨f1,f2⟩:=fin _ rfl
  refine⟨_,_,hr,hge,hcm,?_,?_⟩
  ·simpa using f1
  ·simpa using f2
theorem wg (t ty el:Nat) {φ:Ty} (hd:P.underlying t=some (.slice el)) (hφ:dG P el φ) (g q n cap:Nat) (cur:Array Value) (hg:w.heap[g]? = some (.cells cur el (0,0))) (b:Addr) (m c:Nat) (us:List Value) (hul:us.length=m*φ.size)
  (hus:∀j u,us[j]? = some u→w.cell? (b.add j)=some u) (h1:∀u∈us,u.oneCell'=true) (hroom:n+m≤cap) (hfit:q+n*φ.size+us.length≤cur.size) :
  (Builtin.append_ #[t,t] ty #[.slice (some ⟨g,q,none⟩) n cap,.slice (some b) m c]).run P w =
   .ok (.slice (some ⟨g,q,none⟩) (n+m) cap) (w.setRow g (cur.toList.take (q+n*φ.size)++us++cur.toList.drop (q+n*φ.size+us.length)).toArray):=by
 obtain⟨d',i,z,i1,i2,i3,i4,i5,i6,i7⟩:=hφ.get
 have hf:=run_firstCells_some (P:=P) w i.size m b m c us (by rw[i4];exact hul) hus
 have hst:=run_storeCells_at P g (q+n*i.size) el us 0 cur w hg (by rw[i4];simpa using hfit) h1
 simp only[Nat.add_zero]at hst
 rw[← i4]
 simp[Builtin.append_,run_underlying hd,sizeOf,typeInfo,i3,Builtin.lenOf,hroom,hf,lJ,hst]
theorem yM {α:Type} (l us rest:List α) (b k:Nat) (h:b+k≤l.length):((l.take (b+k)++us++rest).drop b).take (k+us.length)=(l.drop b).take k++us:=by
 have h1:((l.drop b).take k).length=k:=by simp;omega
 rw[List.append_assoc,List.drop_append_of_le_length (by simp;omega),List.drop_take,Nat.add_sub_cancel_left,List.take_append,h1,Nat.add_sub_cancel_left,List.take_append_of_le_length (Nat.le_refl _),List.take_of_length_le (l:=us) (Nat.le_refl _),List.take_of_length_le (by rw[h1];omega)]
theorem Js (hT:lC P T) (hI:Inv N M L w0 blk V t h a w) {c:Call} {s x:Operand} {ty d:Nat} {τ:Ty} {E:dS} (ho:o.op=.call c) (hc:c.callee=.builtin .append) (hargs:c.args = #[s,x]) (htys:c.argTypes = #[ty,ty]) (hd:o.dst=some d)
  (hV:kn N V d e) (hτ:T ty=some τ) (hE:iM T τ h e d (ev t s) (ev t x)=some E):fQ P o a w (aZ N M L w0 V t h a e o.dst E):=by
 have hps:=hI.ev s
 have hpx:=hI.ev x
 generalize ev t s=qs at *
 generalize ev t x=qx at *
 obtain⟨dd,hdd,hcv⟩:=under hT hτ
 have hexec:∀v w',(Builtin.append_ #[ty,ty] o.type #[a.eval s,a.eval x]).run P w=.ok v w'→(execOp a.eval o).run P w=.ok (.value v) w':=by
  intro v w' hr
  simp[execOp,ho,resolve,hc,hargs,htys,invoke,builtin,hr]
 unfold iM at hE
 split at hE
 ·rename_i el hds
  rw[hds]at hcv
  have:=fS hcv
  subst this
  split at hE
  ·rename_i φ m news hφ hcont
   split at hE
   ·rename_i hpos
    have grow:∀(old:Option Nat) (A:Option Addr) (n cap:Nat) (xs:List Value) (olds:List D),(∀y,old=some y→∃r,h y=some r∧r.fz=false)→a.eval s=.slice A n cap→n≤cap→(A=none→n=0∧cap=0)→xs.length=n*φ.size→olds.length=xs.length →
      (∀ad,A=some ad→∀j u,xs[j]? = some u→w.cell? (ad.add j)=some u)→(∀(j:Nat) x,olds[j]? = some x→aY x=true∧RP w (Own M h blk) x (xs.getD j undef))→cap<n+m→n+m≤maxLen→(n+m)*φ.bytes≤140737488355328→news.length=m*φ.size →
      E=⟨.buf d e φ.size 0 (n+m),(match old with|some y=>[(y,none)]|none=>[])++[(d,some ⟨e,el,olds++news,false,true,false⟩)]⟩→fQ P o a w (aZ N M L w0 V t h a e o.dst E):=by
     intro old A n cap xs olds hold hs hnc hA hxl hol hxs holds hgt h63 hby hnl hEq
     obtain⟨B,cb,us,hx1,hxle,hx2,hx3,hx4,hx5⟩:=hI.content hpos.1 hcont hnl hpx
     cases B with
     | none =>
      have:=(hx5 rfl).1
      subst this
      omega
     | some b =>
      obtain⟨k,vs,hrun,g1,g2,g3,g4⟩:=uo (P:=P) (w:=w) ty o.type el hdd (hT el φ hφ) hpos.1 hpos.2 A n cap xs hxl hxs hA b m cb us (by omega) (hx4 b rfl) hgt h63 hby
      have hb:Below w.heap.size w (w.drew.alloc (.cells vs el)):=((Below.refl _ _).drew).alloc (by simp) _
      refine aC (hexec _ _ (by rw[hs,hx1];exact hrun)) ?_
      have:=hI.fresh (old:=old) (dst:=o.dst) (e:=e) (d:=d) (ty:=el) (s:=φ.size) (n:=n+m) (cells:=olds++news) (w':=w.drew.alloc (.cells vs el)) (v := .slice (some ⟨w.heap.size,0,none⟩) (n+m) k) hd hV (cu.qu hb) hold
       (.inl ⟨(w.heap.size,0),k,vs,rfl,.inl (Nat.le_refl _),by simpa using heap_alloc_new w.drew (.cells vs el),g1,g2,by simpa using g3,?_,fun j y hj =>?_⟩)
      ·subst hEq
       unfold aZ
       cases old with
       | none=>exact this
       | some y=>exact this
      ·simp only[Nat.zero_add,List.length_append,hol,hxl,hnl,← Nat.add_mul]
       rw[← g3]
       exact Nat.mul_le_mul_right _ g1
      ·have hA':=appended (b:=0) (M':=Own M h blk) (w:=w) (olds:=olds) (news:=news) (xs:=xs) (us:=us) (cur:=vs) hol.symm hx2 (by rw[List.drop_zero,hol,hxl,hnl,← Nat.add_mul];exact g4) holds hx3 j y hj
       simp only[Nat.zero_add]at hA' ⊢
       refine⟨hA'.1,hA'.2.keep fun b k1 k2=>⟨Nat.lt_of_lt_of_le k1 hb.size,fun hb' =>?_,hb.block b k1⟩⟩
       rcases hb' with hb'|rfl
       ·exact k2 (wX hb')
       ·omega
    split at hE
    ·rename_i nl tight n xs
     split at hE
     ·rename_i hcond
      obtain⟨k1,k2,k3,k4,k5⟩:=hcond
      split at hE
      ·rename_i hm
       subst hm
       simp only[Option.some.injEq]at hE
       subst hE
       obtain⟨A,cx,us,hx1,hxle,hx2,hx3,hx4,hx5⟩:=hI.content hpos.1 hcont k5 hpx
       obtain⟨B,cb,xs',hs1,hsle,_⟩:=hI.content (d := .sl nl tight n xs) hpos.1 rfl k4 hps
       refine aC (hexec _ _ (by rw[hs1,hx1];exact nc (τ:=τ) ty o.type el hdd (hT el φ hφ) B A n cb cx hsle)) (aZ.dW hI ?_)
       rw[← hs1];exact hps
      ·rename_i hm
       simp only[Option.some.injEq]at hE
       obtain⟨B,cb,xs',hs1,hsle,hs2,hs3,hs4,hs5⟩:=hI.content (d := .sl nl tight n xs) hpos.1 rfl k4 hps
       have hcap:cb=n:=by
        have hps':RP w (Own M h blk) (.sl nl tight n xs) (a.eval s):=hps
        generalize a.eval s=u at *
        cases hps' with
        | sl A' c' nl tight n xs us' h1 h2 h3 h4 h5 h6 h7 h8 =>
         simp only[Value.slice.injEq]at hs1
         obtain⟨_,_,rfl⟩:=hs1
         exact h5 k1
       subst hcap
       exact grow none B cb cb xs' xs (fun y hy=>by cases hy) hs1 hsle (fun h=>(hs5 h)) (by omega) (by omega) hs4 hs3 (by omega) k2 k3 k5 hE.symm
     ·cases hE
    ·rename_i y v zz q n
     split at hE
     ·rename_i r hlv
      split at hE
      ·rename_i hcond
       obtain⟨k1,k2,k3,k4,k5,k6,k7⟩:=hcond
       subst k1
       simp only[Option.some.injEq]at hE
       obtain⟨hyy,hyv⟩:=bT hlv
       have hcont':Am.content h (.buf y v φ.size q n)=some (n,(r.cells.drop q).take (n*φ.size)):=by simp only[Am.content,hlv,if_pos k4]
       have hol:((r.cells.drop q).take (n*φ.size)).length=n*φ.size:=by simp;omega
       obtain⟨B,cb,xs',hs1,hsle,hs2,hs3,hs4,hs5⟩:=hI.content hpos.1 hcont' hol hps
       by_cases hroom:n+m≤cb
       ·obtain⟨A,cx,us,hx1,hxle,hx2,hx3,hx4,hx5⟩:=hI.content hpos.1 hcont k7 hpx
        have empty:cb=0→fQ P o a w (aZ N M L w0 V t h a e o.dst E):=by
         intro h0
         have hn0:n=0:=by omega
         have hm0:m=0:=by omega
         subst hn0 hm0 h0
         have hnews:news=[]:=List.eq_nil_of_length_eq_zero (by omega)
         subst hE hnews
         refine aC (hexec _ _ (by rw[hs1,hx1];exact nc (τ:=τ) ty o.type el hdd (hT el φ hφ) B A 0 0 cx (Nat.le_refl _))) ?_
         have:=hI.fresh (old:=some y) (dst:=o.dst) (e:=e) (d:=d) (ty:=el) (s:=φ.size) (n:=0) (cells:=[]) (w':=w) (v := .slice B 0 0) hd hV (cu.refl _ _) (fun y' hy'=>by cases hy';exact⟨r,hyy,k3⟩) (.inr ⟨rfl,rfl,B,rfl⟩)
         unfold aZ
         have e0:(r.cells.drop q).take (0*φ.size)++[]=[]:=by simp
         rw[e0]
         exact this
        rcases hI.xk hlv hps with⟨g,o',cb',cs,g0,g1,g2,g3,g4,g5,g7,g8⟩|⟨g0,g1,g2,A',g3⟩
        ·have hcb:cb'=cb:=by rw[g1]at hs1;simp at hs1;exact hs1.2
         subst hcb
         by_cases hcq:0<cb'∨q=0
         ·obtain⟨ho',hcs⟩:=g5 hcq
          subst ho'
          have hfit0:(n+m)*φ.size≤cb'*φ.size:=Nat.mul_le_mul_right _ hroom
          rw[Nat.add_mul]at hfit0
          have hfit:g.2+q+n*φ.size+us.length≤cs.size:=by omega
          have hxl2:((cs.toList.drop (g.2+q)).take (n*φ.size)).length=n*φ.size:=by simp;omega
          have hrun:∃cur,(Builtin.append_ #[ty,ty] o.type #[a.eval s,a.eval x]).run P w=.ok (.slice (some ⟨g.1,g.2+q,none⟩) (n+m) cb') (w.setRow g.1 cur)∧cur.size=cs.size∧(cur.toList.drop (g.2+q)).take (n*φ.size+m*φ.size)=(cs.toList.drop (g.2+q)).take (n*φ.size)++us:=by
           rw[hx1,g1]
           cases A with
           | some ad =>
            refine⟨_,wg (P:=P) ty o.type el hdd (hT el φ hφ) g.1 (g.2+q) n cb' cs (by rw[← k2];exact g4) ad m cx us (by omega) (hx4 ad rfl) (Tz hx2 hx3) hroom hfit,by simp;omega,?_⟩
            have:=yM cs.toList us (cs.toList.drop (g.2+q+n*φ.size+us.length)) (g.2+q) (n*φ.size) (by simp;omega)
            have hul:us.length=m*φ.size:=by omega
            rw[hul]at this
            rw[hul]
            exact this
           | none =>
            obtain⟨rfl,rfl⟩:=hx5 rfl
            have hu0:us=[]:=List.eq_nil_of_length_eq_zero (by omega)
            subst hu0
            refine⟨cs,?_,rfl,by simp⟩
            rw[setRow_self w g.1 cs r.ty (0,0) g4]
            exact nc (τ:=τ) ty o.type el hdd (hT el φ hφ) _ _ n cb' 0 g2
          obtain⟨cur,hrun,hcur,htake⟩:=hrun
          subst hE
          have hown:Own M h blk g.1 := .inr ⟨y,r,g,hyy,k3,g0,rfl⟩
          have hheap:∀b,b≠g.1→(w.setRow g.1 cur).heap[b]? = w.heap[b]?:=by
           intro b hb
           simp only[World.setRow,Array.getElem?_modify]
           rw[if_neg (Ne.symm hb)]
          have hsize:(w.setRow g.1 cur).heap.size=w.heap.size:=by simp[World.setRow]
          refine aC (hexec _ _ hrun) ?_
          have:=hI.fresh (old:=some y) (dst:=o.dst) (e:=e) (d:=d) (ty:=el) (s:=φ.size) (n:=n+m) (cells:=(r.cells.drop q).take (n*φ.size)++news) (w':=w.setRow g.1 cur) (v := .slice (some ⟨g.1,g.2+q,none⟩) (n+m) cb') hd hV
           ⟨rfl,rfl,rfl,by rw[hsize];exact Nat.le_refl _,fun b _ hb=>hheap b (fun he=>hb ⟨y,g,rfl,g0,he⟩)⟩ (fun y' hy'=>by cases hy';exact⟨r,hyy,k3⟩)
           (.inl ⟨(g.1,g.2+q),cb',cur,rfl,.inr ⟨y,g,rfl,g0,rfl⟩,by rw[← k2];exact setRow_heap w g.1 cs cur r.ty (0,0) g4,hroom,g3,by rw[hcur];exact hcs,by simp only[List.length_append,hol];omega,fun j z hj =>?_⟩)
          ·unfold aZ
           exact this
          ·have hA':=appended (b:=g.2+q) (M':=Own M h blk) (w:=w) (olds:=(r.cells.drop q).take (n*φ.size)) (news:=news) (xs:=(cs.toList.drop (g.2+q)).take (n*φ.size)) (us:=us) (cur:=cur) (by rw[hol,hxl2]) hx2 (by rw[hol,k7];exact htake)
            (fun j z hj=>by
             rw[cw]at hj
             split at hj
             ·rename_i hjl
              have:=g8 _ _ hj
              have he:((cs.toList.drop (g.2+q)).take (n*φ.size)).getD j undef=cs.getD (g.2+(q+j)) undef:=by
               simp only[List.getD_eq_getElem?_getD,cw,if_pos hjl,Nat.add_assoc]
               simp
              rw[he];exact this
             ·cases hj) hx3 j z hj
           refine⟨hA'.1,hA'.2.keep fun b q1 q2=>⟨by rw[hsize];exact q1,?_,hheap b (fun he=>q2 (he ▸ hown))⟩⟩
           rintro (hb|rfl)
           ·exact q2 (wX hb)
           ·exact q2 hown
         ·exact empty (by omega)
        ·rw[g3]at hs1
         simp only[Value.slice.injEq]at hs1
         exact empty (by omega)
       ·exact grow (some y) B n cb xs' _ (fun y' hy'=>by cases hy';exact⟨r,hyy,k3⟩) hs1 hsle (fun h=>(hs5 h)) (by omega) (by omega) hs4 hs3 (by omega) k5 k6 k7 hE.symm
      ·cases hE
     ·cases hE
    ·cases hE
   ·cases hE
  ·cases hE
 ·cases hE
end
section
variable {P:Program} {T:Nat→Option Ty} {N:Nat} {M:Nat→Prop} {L:sS} {w0:World} {blk:Nat→Option (Nat×Nat)} {V:Nat→Nat→Prop} {t:Nat→D} {h:Nat→Option Row} {a:Act} {w:World} {e:Nat} {o:Oper} {Γ:Env}
theorem LA {s:Ds} {x:D} (hk:kindOk s x=true):s.oY=false∧jR s=true:=by
 cases s<;>cases x<;>simp[kindOk]at hk<;>exact⟨rfl,rfl⟩
theorem Dz (hT:lC P T) (n:Nat) {M':Nat→Prop} {us vs:List Value} : ∀(F:List Field) (o:Nat) (xs ys:List D) (b:Bool),(∀f∈F,f.name ≠ "_")→fk T o (F.map fun f=>(f.type,f.offset)) xs=true→Qt xs ys=some b →
  (∀j x,xs[j]? = some x→RP w M' x (us.getD (o+j) undef)∧o+j<us.length)→(∀j y,ys[j]? = some y→RP w M' y (vs.getD (o+j) undef)∧o+j<vs.length) →
  (forIn F ((none,()):Option Bool×Unit) fun f __s =>
   if f.name ≠ "_" then do
    let __do_lift ← part f.type us.toArray f.offset
    let __do_lift_1 ← part f.type vs.toArray f.offset
    let __do_lift ← Op.equalIn (n+1) f.type __do_lift __do_lift_1
    if (!__do_lift)=true then pure (ForInStep.done (some false,())) else pure (ForInStep.yield (none,()))
   else (pure (ForInStep.yield (none,())):Sem _)).run P w=.ok (if b then (none,()) else (some false,())) w
 | [],o,xs,ys,b,hn,hf,he,hx,hy=>by
  cases xs with
  | nil =>
   cases ys with
   | nil =>
    simp only[Qt,Option.some.injEq]at he
    subst he
    rfl
   | cons y ys=>simp[Qt]at he
  | cons x xs=>simp[fk]at hf
 | f::F,o,xs,ys,b,hn,hf,he,hx,hy=>by
  cases xs with
  | nil=>simp[fk]at hf
  | cons x xs =>
   cases ys with
   | nil=>simp[Qt]at he
   | cons y ys =>
    simp only[List.map_cons,fk,Bool.and_eq_true,beq_iff_eq]at hf
    obtain⟨⟨h1,h2⟩,h3⟩:=hf
    simp only[Qt]at he
    split at he
    ·rename_i b1 b2 hb1 hb2
     simp only[Option.some.injEq]at he
     subst he
     split at h2
     ·rename_i φ hφ
      obtain⟨hx1,hx2⟩:=hx 0 x rfl
      obtain⟨hy1,hy2⟩:=hy 0 y rfl
      rw[Nat.add_zero]at hx1 hx2 hy1 hy2
      obtain⟨hA,hS⟩:=LA h2
      have hp1:(part f.type us.toArray f.offset).run P w=.ok (us.getD o undef) w:=by
       have hg:us.toArray[f.offset]? = some (us.getD o undef):=by rw[h1];simp[List.getD,List.getElem?_eq_getElem hx2]
       simp only[part,Sem.run_bind,oe (hT _ _ hφ),hA,Result.andThen_ok,Bool.false_eq_true,if_false,hg]
       rfl
      have hp2:(part f.type vs.toArray f.offset).run P w=.ok (vs.getD o undef) w:=by
       have hg:vs.toArray[f.offset]? = some (vs.getD o undef):=by rw[h1];simp[List.getD,List.getElem?_eq_getElem hy2]
       simp only[part,Sem.run_bind,oe (hT _ _ hφ),hA,Result.andThen_ok,Bool.false_eq_true,if_false,hg]
       rfl
      have heq:=(VF hT hφ hS hx1 hy1 hb1 n).2 (Qs hb1 h2)
      have ih:=Dz hT n F (o+1) xs ys b2 (fun g hg=>hn g (by simp[hg])) h3 hb2 (fun j z hj=>by have:=hx (j+1) z hj;rwa [show o+(j+1)=o+1+j by omega]at this) (fun j z hj=>by have:=hy (j+1) z hj;rwa [show o+(j+1)=o+1+j by omega]at this)
      rw[List.forIn_cons]
      simp only[Sem.run_bind]
      rw[if_pos (hn f (by simp))]
      simp only[Sem.run_bind,hp1,Result.andThen_ok,hp2,heq]
      cases b1 with
      | false=>rfl
      | true =>
       simp only[Bool.not_true,Bool.false_eq_true,if_false,Sem.run_pure,Result.andThen_ok,Bool.true_and]
       exact ih
     ·cases h2
    ·cases he
theorem run_equalIn_bool (n:Nat) {ty:Nat} (hd:P.underlying ty=some .bool) (i j:Bool):(Op.equalIn (n+1) ty (.bool i) (.bool j)).run P w=.ok (i==j) w:=by
 simp[Op.equalIn,run_underlying hd]
theorem run_equalIn_struct (n:Nat) {ty:Nat} {F:Array Field} (hd:P.underlying ty=some (.struct F)) (q1:P.stoodInHeld ty=false) {us vs:List Value} {b:Bool}
  (hloop:(forIn F.toList ((none,()):Option Bool×Unit) fun f __s =>
   if f.name ≠ "_" then do
    let __do_lift ← part f.type us.toArray f.offset
    let __do_lift_1 ← part f.type vs.toArray f.offset
    let __do_lift ← Op.equalIn (n+1) f.type __do_lift __do_lift_1
    if (!__do_lift)=true then pure (ForInStep.done (some false,())) else pure (ForInStep.yield (none,()))
   else (pure (ForInStep.yield (none,())):Sem _)).run P w=.ok (if b then (none,()) else (some false,())) w) :
  (Op.equalIn (n+1+1) ty (.agg us.toArray) (.agg vs.toArray)).run P w=.ok b w:=by
 have hprog:(program:Sem Program).run P w=.ok P w:=rfl
 rw[Op.equalIn]
 simp only[Sem.run_bind,run_underlying hd,Result.andThen_ok,hprog,q1,Bool.false_eq_true,if_false]
 rw[← Array.forIn_toList,hloop]
 cases b<;>rfl
theorem Pt (hT:lC P T) (hI:Inv N M L w0 blk V t h a w) {ty:Nat} {τ:Ty} (hτ:T ty=some τ) {x y:D} {u v:Value} {b:Bool} (hx:RT w (Own M h blk) h blk V x u) (hy:RT w (Own M h blk) h blk V y v) (hb:Rw T τ x y=some b) :
  (Op.equal ty u v).run P w=.ok b w∧(∀(p q:Operand) (op:BinOp),(eqGuard op ty p q u v).run P w=.ok () w)∧(∀op,op=.eql∨op=.neq→binOp op ty u v=(match op with | .eql=>(do pure (.bool (← Op.equal ty u v)):Sem Value)|_=>do pure (.bool (!(← Op.equal ty u v))))):=by
 obtain⟨d,hd,hc⟩:=under hT hτ
 unfold Rw at hb
 split at hb
 ·rename_i i j
  have hu:=uD hx
  have hv:=uD hy
  subst hu hv
  split at hb
  ·rename_i hds
   rw[hds]at hc
   have:=uH hc
   subst this
   simp only[Option.some.injEq]at hb
   subst hb
   refine⟨run_equalIn_bool 9999 hd i j,fun p q op=>by cases op<;>rfl,fun op hop =>?_⟩
   rcases hop with rfl|rfl<;>rfl
  ·cases hb
 ·rename_i nl tg n xs
  have hx':RP w (Own M h blk) (.sl nl tg n xs) u:=hx
  have hy':RP w (Own M h blk) (.sl true true 0 []) v:=hy
  split at hb
  ·rename_i el hds
   rw[hds]at hc
   have:=fS hc
   subst this
   cases hy' with
   | sl A c _ _ _ _ us h1 h2 h3 h4 h5 h6 h7 h8 =>
    obtain⟨rfl,rfl⟩:=(h3 rfl).1 rfl
    cases hx' with
    | sl B c' _ _ _ _ us' g1 g2 g3 g4 g5 g6 g7 g8 =>
     have hr:=run_equal_slice_nil (P:=P) w ty el B n c' hd
     refine⟨?_,fun p q op=>by cases op<;>rfl,fun op hop =>?_⟩
     ·rw[hr]
      have hB:B.isNone=b:=by
       unfold Vs at hb
       split at hb
       ·rename_i hpos
        simp only[Option.some.injEq]at hb
        subst hb
        cases B with
        | none=>have:=(g4 rfl).1;omega
        | some _=>rfl
       ·split at hb
        ·rename_i hnl
         simp only[Option.some.injEq]at hb
         subst hb
         cases htg:tg with
         | true=>rw[((g3 hnl).1 htg).1];rfl
         | false =>
          cases B with
          | none=>exact absurd rfl ((g3 hnl).2 htg)
          | some _=>rfl
        ·cases hb
      rw[← hB]
     ·rcases hop with rfl|rfl<;>rfl
  ·cases hb
 ·rename_i xs ys
  have hx':RP w (Own M h blk) (.agg xs) u:=hx
  have hy':RP w (Own M h blk) (.agg ys) v:=hy
  split at hb
  ·rename_i fs hds
   rw[hds]at hc
   obtain⟨F,rfl,hF⟩:=ia hc
   split at hb
   ·rename_i hcond
    simp only[Bool.and_eq_true]at hcond
    obtain⟨q1,q2,q3⟩:=(hT ty τ hτ).eqs hcond.1
    rw[hd]at q3
    simp only at q3
    cases hx' with
    | agg xs us h1 h2 h3 =>
     cases hy' with
     | agg ys vs g1 g2 g3 =>
      have hnames:∀f∈F.toList,f.name ≠ "_":=by
       intro f hf
       have:=Array.all_eq_true_iff_forall_mem.1 q3 f (by simpa using hf)
       simpa using this
      have hloop:=Dz (P:=P) (w:=w) hT 9998 (M':=Own M h blk) (us:=us) (vs:=vs) F.toList 0 xs ys b hnames (by rw[hF];exact hcond.2) hb
       (fun j x hj=>by rw[Nat.zero_add];exact⟨h2 j x hj,by have:=(List.getElem?_eq_some_iff.1 hj).1;omega⟩) (fun j x hj=>by rw[Nat.zero_add];exact⟨g2 j x hj,by have:=(List.getElem?_eq_some_iff.1 hj).1;omega⟩)
      refine⟨?_,fun p q op =>?_,fun op hop =>?_⟩
      ·exact run_equalIn_struct 9998 hd q1 hloop
      ·cases op<;>first|rfl|simp[eqGuard,program,Sem.run,q2]
      ·rcases hop with rfl|rfl<;>rfl
   ·cases hb
  ·cases hb
 ·cases hb
theorem Mo (hT:lC P T) (hI:Inv N M L w0 blk V t h a w) {x y:Operand} {op:BinOp} {ty ty':Nat} {d:D} (ho:o.op=.binOp op ty x y ty') (hd:yJ T ty op (ev t x) (ev t y)=some d):fQ P o a w (aZ N M L w0 V t h a e o.dst ⟨d,[]⟩):=by
 have hx:=hI.ev x
 have hy:=hI.ev y
 generalize ev t x=p at *
 generalize ev t y=q at *
 unfold yJ at hd
 split at hd
 ·rename_i k i k' j
  have hu:=kb hx
  have hv:=kb hy
  have hg:(eqGuard op ty x y (.int k i) (.int k' j)).run P w=.ok () w:=by cases op<;>rfl
  split at hd
  ·rename_i hs
   obtain⟨v,hr,hp⟩:=NA (P:=P) (w:=w) (M:=Own M h blk) (ty:=ty) (k':=k') hs hd
   exact aC (by simp[execOp,ho,hu,hv,hg,hr]) (aZ.dW hI (bX hp))
  ·rename_i hs
   split at hd
   ·rename_i hk
    subst hk
    obtain⟨v,hr,hp⟩:=TL (P:=P) (w:=w) (M:=Own M h blk) (ty:=ty) (by simpa using hs) hd
    exact aC (by simp[execOp,ho,hu,hv,hg,hr]) (aZ.dW hI (bX hp))
   ·cases hd
 ·rename_i s s'
  have hu:=Bp hx
  have hv:=Bp hy
  have hg:(eqGuard op ty x y (.string s) (.string s')).run P w=.ok () w:=by cases op<;>rfl
  obtain⟨v,hr,hp⟩:=TN (P:=P) (w:=w) (M:=Own M h blk) (ty:=ty) hd
  exact aC (by simp[execOp,ho,hu,hv,hg,hr]) (aZ.dW hI (bX hp))
 ·split at hd
  ·rename_i τ hτ
   split at hd
   ·split at hd
    ·rename_i c hc
     simp only[Option.some.injEq]at hd
     subst hd
     obtain⟨r1,r2,r3⟩:=Pt (P:=P) hT hI hτ hx hy hc
     have hb:=r3 .eql (.inl rfl)
     exact aC (v := .bool c) (w':=w) (by simp[execOp,ho,r2,hb,r1]) (aZ.dW hI (bX (.bool _)))
    ·cases hd
   ·split at hd
    ·rename_i c hc
     simp only[Option.some.injEq]at hd
     subst hd
     obtain⟨r1,r2,r3⟩:=Pt (P:=P) hT hI hτ hx hy hc
     have hb:=r3 .neq (.inr rfl)
     exact aC (v := .bool !c) (w':=w) (by simp[execOp,ho,r2,hb,r1]) (aZ.dW hI (bX (.bool _)))
    ·cases hd
   ·cases hd
  ·cases hd
end
section
variable {P:Program} {T:Nat→Option Ty} {N:Nat} {M:Nat→Prop} {L:sS} {w0:World} {blk:Nat→Option (Nat×Nat)} {V:Nat→Nat→Prop} {t:Nat→D} {h:Nat→Option Row} {a:Act} {w:World} {e:Nat} {o:Oper} {Γ:Env}
theorem kr {α:Type} {c:Array α} {l:List α} (h:c.toList=l):c=l.toArray:=by rw[← h]
theorem Pd {β:Type} {f:Operand→β} {l:List Operand} {p q:β} (h:l.map f=[p,q]):∃s x,l=[s,x]∧f s=p∧f x=q:=by
 match l,h with
 | [s,x],h=>simp only[List.map_cons,List.map_nil,List.cons.injEq,and_true]at h;exact⟨s,x,rfl,h.1,h.2⟩
theorem Vr {β:Type} {f:Operand→β} {l:List Operand} {p:β} (h:l.map f=[p]):∃s,l=[s]∧f s=p:=by
 match l,h with
 | [s],h=>simp only[List.map_cons,List.map_nil,List.cons.injEq,and_true]at h;exact⟨s,rfl,h⟩
theorem map_cons {β:Type} {f:Operand→β} {l:List Operand} {p:β} {r:List β} (h:l.map f=p::r):∃s l',l=s::l'∧f s=p∧l'.map f=r:=by
 match l,h with
 | s::l',h=>simp only[List.map_cons,List.cons.injEq]at h;exact⟨s,l',rfl,h.1,h.2⟩
theorem G4 (hT:lC P T) (hI:Inv N M L w0 blk V t h a w) {c:Call} {b:Builtin} {E:dS} (ho:o.op=.call c) (hc:c.callee=.builtin b) (hV:∀d,o.dst=some d→kn N V d e)
  (hE:cv T h e o.dst b c.argTypes.toList (c.args.toList.map (ev t))=some E):fQ P o a w (aZ N M L w0 V t h a e o.dst E):=by
 unfold cv at hE
 split at hE
 ·rename_i ty tys x htys hargs
  obtain⟨s,hs,rfl⟩:=Vr hargs
  have hs':=kr hs
  have ht':=kr htys
  split at hE
  ·rename_i hal
   split at hE
   ·rename_i τ n hτ hn
    have hp:=hI.ev s
    obtain⟨d,hd,hcv⟩:=under hT hτ
    obtain⟨l1,l2⟩:=RT.ZG hI hn hal hp
    have hexec:∀v,(Builtin.len_ c.argTypes o.type #[a.eval s]).run P w=.ok v w→(execOp a.eval o).run P w=.ok (.value v) w:=by
     intro v hr
     simp[execOp,ho,resolve,hc,hs',invoke,builtin,hr]
    have ht0:c.argTypes[0]? = some ty:=by rw[ht'];rfl
    split at hE
    ·rename_i z hds hz
     rw[hz]at l1
     obtain⟨hu,hsz⟩:=l1 _ rfl
     rw[hds]at hcv
     have:=qg hcv
     subst this
     simp only[Option.some.injEq]at hE
     subst hE
     refine aC (hexec (.int .i64 n) ?_) (aZ.dW hI (bX (.int _ _)))
     simp[Builtin.len_,ht0,run_underlying hd,hu,goInt,hsz]
    ·rename_i el z1 z2 z3 z4 hds hz
     obtain⟨A,k,hu⟩:=l2 (by rw[hz];intro s h;cases h)
     rw[hds]at hcv
     have:=fS hcv
     subst this
     simp only[Option.some.injEq]at hE
     subst hE
     refine aC (hexec (.int .i64 n) ?_) (aZ.dW hI (bX (.int _ _)))
     simp[Builtin.len_,ht0,run_underlying hd,hu,goInt]
    ·rename_i el z1 z2 z3 z4 z5 hds hz
     obtain⟨A,k,hu⟩:=l2 (by rw[hz];intro s h;cases h)
     rw[hds]at hcv
     have:=fS hcv
     subst this
     simp only[Option.some.injEq]at hE
     subst hE
     refine aC (hexec (.int .i64 n) ?_) (aZ.dW hI (bX (.int _ _)))
     simp[Builtin.len_,ht0,run_underlying hd,hu,goInt]
    ·cases hE
   ·cases hE
  ·cases hE
 ·rename_i ty ty' p q htys hargs
  obtain⟨s,x,hs,rfl,rfl⟩:=Pd hargs
  split at hE
  ·rename_i htt
   subst htt
   split at hE
   ·rename_i τ d hτ hd
    exact Js hT hI ho hc (kr hs) (kr htys) hd (hV d hd) hτ hE
   ·cases hE
  ·cases hE
 ·rename_i k x r hargs
  obtain⟨s,l,hs,h1,h2⟩:=map_cons hargs
  split at hE
  ·rename_i z hz
   simp only[Option.some.injEq]at hE
   subst hE
   have hu:a.eval s=.int k x:=by have:=hI.ev s;rw[h1]at this;exact kb this
   have hr:=Lv (P:=P) (w:=w) (M:=M) (blk:=blk) (V:=V) (h:=h) k r (l.map a.eval) x z hz (by rw[← h2];simp) (fun j d hj=>by
    rw[← h2,List.getElem?_map]at hj
    cases hx:l[j]? with
    | none=>simp[hx]at hj
    | some y =>
     simp only[hx,Option.map_some,Option.some.injEq]at hj
     subst hj
     have:(l.map a.eval).getD j undef=a.eval y:=by simp[List.getD,hx]
     rw[this];exact hI.ev y)
   refine aC (v := .int k z) (w':=w) ?_ (aZ.dW hI (bX (.int _ _)))
   have hargs':c.args.map a.eval=(Value.int k x::l.map a.eval).toArray:=by rw[kr hs];simp[hu]
   simp[execOp,ho,resolve,hc,hargs',invoke,builtin,Builtin.max_,hr]
  ·cases hE
 ·rename_i k x r hargs
  obtain⟨s,l,hs,h1,h2⟩:=map_cons hargs
  split at hE
  ·rename_i z hz
   simp only[Option.some.injEq]at hE
   subst hE
   have hu:a.eval s=.int k x:=by have:=hI.ev s;rw[h1]at this;exact kb this
   have hr:=Lw (P:=P) (w:=w) (M:=M) (blk:=blk) (V:=V) (h:=h) k r (l.map a.eval) x z hz (by rw[← h2];simp) (fun j d hj=>by
    rw[← h2,List.getElem?_map]at hj
    cases hx:l[j]? with
    | none=>simp[hx]at hj
    | some y =>
     simp only[hx,Option.map_some,Option.some.injEq]at hj
     subst hj
     have:(l.map a.eval).getD j undef=a.eval y:=by simp[List.getD,hx]
     rw[this];exact hI.ev y)
   refine aC (v := .int k z) (w':=w) ?_ (aZ.dW hI (bX (.int _ _)))
   have hargs':c.args.map a.eval=(Value.int k x::l.map a.eval).toArray:=by rw[kr hs];simp[hu]
   simp[execOp,ho,resolve,hc,hargs',invoke,builtin,Builtin.min_,hr]
  ·cases hE
 ·cases hE
theorem RN {h:Nat→Option Row} {d:D} {u:Value} {M':Nat→Prop} (hc:ja d=true) (hr:RT w M' h blk V d u):RC w M' h blk V d u:=by
 cases d with
 | buf _ _ _ _ _=>simp[ja]at hc
 | clo _ _ _=>simp[ja]at hc
 | und=>simp[ja]at hc
 | skp=>simp[ja]at hc
 | box1 _ _ _ _ _=>simp[ja]at hc
 | _=>exact hr
theorem DZ (hI:Inv N M L w0 blk V t h a w) {f:Nat} {first caps:Array Operand} (ho:o.op=.makeFunc (.func f) first caps) (hc:(first.toList.map (ev t)++caps.toList.map (ev t)).all ja=true) :
  fQ P o a w (aZ N M L w0 V t h a e o.dst ⟨.clo f first.size (first.toList.map (ev t)++caps.toList.map (ev t)),[]⟩):=by
 refine aC (v := .func (.func f) (first.map a.eval) (caps.map a.eval)) (w':=w) ?_ (aZ.dW hI ?_)
 ·simp[execOp,ho,Instr.makeFunc]
 ·refine⟨first.toList.map a.eval++caps.toList.map a.eval,?_,by simp,fun j x hj =>?_⟩
  ·rw[List.take_left' (by simp),List.drop_left' (by simp),← Array.toList_map,← Array.toList_map]
  rw[List.all_eq_true]at hc
  have hcx:=hc x (List.mem_of_getElem? hj)
  rw[← List.map_append,List.getElem?_map,Option.map_eq_some_iff]at hj
  obtain⟨q,hq,rfl⟩:=hj
  have:(first.toList.map a.eval++caps.toList.map a.eval).getD j undef=a.eval q:=by rw[← List.map_append];simp only[List.getD_eq_getElem?_getD,List.getElem?_map,hq];rfl
  rw[this]
  exact RN hcx (hI.ev q)
theorem Qr (hT:lC P T) (hΓ:bN P Γ) (hI:Inv N M L w0 blk V t h a w) (hV:∀d,o.dst=some d→kn N V d e) (hP:∀x v,V x v→x<N) {E:dS} (hE:l4 T Γ e o (ev t) h=some E):fQ P o a w (aZ N M L w0 V t h a e o.dst E):=by
 unfold l4 at hE
 split at hE
 ·rename_i x ho
  simp only[Option.some.injEq]at hE;subst hE
  exact Fy hI (.inl ho)
 ·rename_i x ho
  exact SA hI ho hV hE
 ·rename_i c x y ho
  split at hE
  ·rename_i hc
   simp only[Option.some.injEq]at hE;subst hE
   exact Fz (b:=true) hI ho hc
  ·rename_i hc
   simp only[Option.some.injEq]at hE;subst hE
   exact Fz (b:=false) hI ho hc
  ·cases hE
 ·rename_i ty ho
  split at hE
  ·rename_i τ d hτ hd
   split at hE
   ·rename_i hz
    simp only[Option.some.injEq]at hE;subst hE
    exact Mn (hint:=Γ.hint) hT hI ho hd hτ (hV d hd) hz
   ·cases hE
  ·cases hE
 ·rename_i ty x ho
  split at hE
  ·rename_i d cs fr hd hc
   split at hE
   ·simp only[Option.some.injEq]at hE;subst hE
    exact SC hI ho hd (hV d hd) hc
   ·cases hE
  ·cases hE
 ·rename_i ty p ho
  split at hE
  ·rename_i τ hτ
   exact Ve hT hI ho hτ hE
  ·cases hE
 ·rename_i ty p x ho
  split at hE
  ·rename_i τ hτ
   exact SF hT hI hP ho hτ hE
  ·cases hE
 ·rename_i x ho
  exact SE hI ho hE
 ·rename_i ty x i ho
  split at hE
  ·rename_i τ hτ
   exact BX hT hI ho hτ hE
  ·cases hE
 ·rename_i ty x i ho
  split at hE
  ·rename_i τ hτ
   exact Mp hT hI ho hτ hE
  ·cases hE
 ·rename_i ty x i ho
  split at hE
  ·rename_i τ hτ
   exact BY hT hI ho hτ hE
  ·cases hE
 ·rename_i ty x i ho
  split at hE
  ·rename_i τ hτ
   exact Mq hT hI ho hτ hE
  ·cases hE
 ·rename_i ty x lo hi mx ho
  split at hE
  ·rename_i τ hτ
   exact Mr hT hI ho hτ hE
  ·cases hE
 ·rename_i ty parts ho
  split at hE
  ·rename_i τ hτ
   exact SB hT hI ho hτ hE
  ·cases hE
 ·rename_i ty len parts ho
  split at hE
  ·rename_i τ d hτ hd
   exact AI hT hI ho hd (hV d hd) hτ hE
  ·cases hE
 ·rename_i ty l c ho
  split at hE
  ·rename_i τ d hτ hd
   exact Qm hT hI ho hd (hV d hd) hτ hE
  ·cases hE
 ·rename_i op ty x y ty' ho
  split at hE
  ·rename_i d hd
   simp only[Option.some.injEq]at hE;subst hE
   exact Mo hT hI ho hd
  ·cases hE
 ·rename_i op ty x ho
  split at hE
  ·rename_i d hd
   simp only[Option.some.injEq]at hE;subst hE
   exact Qo hI ho hd
  ·cases hE
 ·rename_i src dst x ho
  split at hE
  ·rename_i τ k n σ hτ hσ hx
   split at hE
   ·rename_i k' hds
    simp only[Option.some.injEq]at hE;subst hE
    exact G5 hT hI ho hτ hσ hds hx
   ·cases hE
  ·cases hE
 ·rename_i fn first caps ho
  split at hE
  ·split at hE
   ·rename_i hc
    simp only[Option.some.injEq]at hE;subst hE
    exact DZ hI ho hc
   ·cases hE
  ·cases hE
 ·rename_i ty ho
  split at hE
  ·rename_i τ d hτ hd
   exact G8 hT hI ho hd (hV d hd) hτ hE
  ·cases hE
 ·rename_i ty m i ok ho
  split at hE
  ·rename_i τ hτ
   exact Jt hT hI ho hτ hE
  ·cases hE
 ·rename_i ty m i x ho
  split at hE
  ·rename_i τ hτ
   exact tA hT hI (.inr ho) hτ hE
  ·cases hE
 ·rename_i ty m i x ho
  split at hE
  ·rename_i τ hτ
   exact tA hT hI (.inl ho) hτ hE
  ·cases hE
 ·rename_i x i ho
  split at hE
  ·rename_i xs hx
   split at hE
   ·rename_i d hd
    simp only[Option.some.injEq]at hE;subst hE
    exact G6 hI ho hx hd
   ·cases hE
  ·cases hE
 ·rename_i c ho
  split at hE
  ·rename_i f hc
   exact Qk hΓ hI ho hc hV hP hE
  ·rename_i b hc
   exact G4 hT hI ho hc hV hE
  ·cases hE
 ·cases hE
end
section
variable {T:Nat→Option Ty} {h h':Nat→Option Row} {e:Nat} {o:Oper} {Γ:Env}
theorem b7 {x v:Nat} (hx:h x=h' x):live h x v=live h' x v:=by simp[live,hx]
theorem mA {x v:Nat} (hx:h x=h' x):ic h x v=ic h' x v:=by simp[ic,hx]
theorem kP {d:D} (hx:∀x∈nm d,h x=h' x):dA h d=dA h' d:=by
 cases d<;>try rfl
 rename_i x v s o n
 simp only[dA]
 rw[b7 (hx x (by simp[nm,iO]))]
theorem DY {d:D} (hx:∀x∈nm d,h x=h' x):content h d=content h' d:=by
 cases d<;>try rfl
 rename_i x v s o n
 simp only[content]
 rw[b7 (hx x (by simp[nm,iO]))]
theorem ri {d:D} (hx:∀x∈nm d,h x=h' x):ez h d=ez h' d:=by
 cases d<;>first|rfl|(simp only[ez];rw[kP hx])
theorem tu {d:D} (hx:∀x∈iO d,h x=h' x):aT h d=aT h' d:=by
 cases d<;>try rfl
 ·simp only[aT]
  rw[b7 (hx _ (by simp[iO]))]
 ·simp only[aT]
  rw[kP (d := .buf _ _ _ _ _) hx]
 ·simp only[aT]
  rw[kP (d := .buf _ _ _ _ _) hx]
 ·simp only[aT]
  rw[mA (hx _ (by simp[iO]))]
 ·rename_i x v y
  simp only[aT]
  rw[b7 (hx x (by simp[iO]))]
  have hl:∀v',ic h y v'=ic h' y v':=fun v'=>mA (hx y (by simp[iO]))
  simp only[hl]
theorem sq:∀ {ds:List D},(∀d∈ds,∀x∈iO d,h x=h' x)→cT h ds=cT h' ds
 | [],_=>rfl
 | d::ds,hx=>by
  simp only[cT]
  rw[tu (hx d (by simp)),sq (fun d' hd'=>hx d' (by simp[hd']))]
theorem tr (h:Nat→Option Row) {d:D} (hd:∀f kk xs,d ≠ .clo f kk xs):bY h d=aT h d:=by cases d<;>first|rfl|exact absurd rfl (hd _ _ _)
theorem Pf {d:D} (hd:∀f kk xs,d ≠ .clo f kk xs):nm d=iO d:=by cases d<;>first|rfl|exact absurd rfl (hd _ _ _)
theorem Sq (d:D):(∃f kk xs,d=.clo f kk xs)∨∀f kk xs,d ≠ .clo f kk xs:=by
 cases d<;>first|exact .inl ⟨_,_,_,rfl⟩|exact .inr (fun _ _ _ h=>by cases h)
theorem BO {d:D} (hx:∀x∈nm d,h x=h' x):bY h d=bY h' d:=by
 rcases Sq d with⟨f,kk,xs,rfl⟩|hd
 ·simp only[bY]
  rw[sq (fun d hd x hxd=>hx x (List.mem_flatMap.2 ⟨d,hd,hxd⟩))]
 ·rw[Pf hd]at hx
  rw[tr h hd,tr h' hd]
  exact tu hx
theorem mV:∀ {ds:List D},(∀d∈ds,∀x∈nm d,h x=h' x)→cn h ds=cn h' ds
 | [],_=>rfl
 | d::ds,hx=>by
  simp only[cn]
  rw[BO (hx d (by simp)),mV (fun d' hd'=>hx d' (by simp[hd']))]
theorem jv {fr:List Nat} (hx:∀x∈fr,h x=h' x):iY h fr=iY h' fr:=by
 unfold iY
 exact List.map_congr_left fun x hxm=>by rw[hx x hxm]
theorem qe {d d':D} {fr:List Nat} (hc:dA h d=some (d',fr)):∀x∈fr,x∈nm d:=by
 cases d<;>simp only[dA,Option.some.injEq,Prod.mk.injEq]at hc<;>try (cases hc;done)
 ·obtain⟨_,rfl⟩:=hc;simp
 ·obtain⟨_,rfl⟩:=hc;simp
 ·obtain⟨_,rfl⟩:=hc;simp
 ·obtain⟨_,rfl⟩:=hc;simp
 ·split at hc
  ·split at hc
   ·simp only[Option.some.injEq,Prod.mk.injEq]at hc
    obtain⟨_,rfl⟩:=hc
    simp[nm,iO]
   ·cases hc
  ·cases hc
theorem qd {d : D} {cs : List D} {fr : List Nat} (hc : ez h d = some (cs, fr)) : ∀ x ∈ fr, x ∈ nm d := by
  cases d <;> simp only [ez] at hc <;> first
    | (simp only [Option.some.injEq, Prod.mk.injEq] at hc; obtain ⟨_, rfl⟩ := hc; simp; done)
    | (split at hc
       · rename_i h1
         simp only [Option.some.injEq, Prod.mk.injEq] at hc
         obtain ⟨_, rfl⟩ := hc
         exact qe h1
       · cases hc)
theorem zC {d d':D} {fr:List Nat} (hc:aT h d=some (d',fr)):∀x∈fr,x∈iO d:=by
 have one:∀d,(∀f kk xs,d ≠ .clo f kk xs)→aT h d=(match dA h d with|some (d',fr)=>some (canon d',fr)|none=>none)→aT h d=some (d',fr)→∀x∈fr,x∈iO d:=by
  intro d hne he hc
  rw[he]at hc
  split at hc
  ·rename_i h1
   simp only[Option.some.injEq,Prod.mk.injEq]at hc
   obtain⟨_,rfl⟩:=hc
   intro x hx
   have:=qe h1 x hx
   cases d<;>first|exact this|exact absurd rfl (hne _ _ _)
  ·cases hc
 cases d with
 | ptr x v o =>
  simp only[aT]at hc
  split at hc
  ·split at hc
   ·simp only[Option.some.injEq,Prod.mk.injEq]at hc
    obtain⟨_,rfl⟩:=hc
    simp[iO]
   ·cases hc
  ·cases hc
 | agg xs=>simp only[aT,Option.some.injEq,Prod.mk.injEq]at hc;obtain⟨_,rfl⟩:=hc;simp
 | ip xs=>simp only[aT,Option.some.injEq,Prod.mk.injEq]at hc;obtain⟨_,rfl⟩:=hc;simp
 | fn f=>simp only[aT,Option.some.injEq,Prod.mk.injEq]at hc;obtain⟨_,rfl⟩:=hc;simp
 | clo f kk xs=>simp[aT,dA]at hc
 | box1 x v s o n =>
  simp only[aT]at hc
  split at hc
  ·rename_i h1
   simp only[Option.some.injEq,Prod.mk.injEq]at hc
   obtain⟨_,rfl⟩:=hc
   exact qe h1
  ·cases hc
 | mp x v =>
  simp only[aT]at hc
  split at hc
  ·simp only[Option.some.injEq,Prod.mk.injEq]at hc
   obtain⟨_,rfl⟩:=hc
   simp[iO]
  ·cases hc
 | mpc ks vs=>simp only[aT,Option.some.injEq,Prod.mk.injEq]at hc;obtain⟨_,rfl⟩:=hc;simp
 | pm x v y =>
  simp only[aT]at hc
  split at hc
  ·split at hc
   ·split at hc
    ·split at hc
     ·simp only[Option.some.injEq,Prod.mk.injEq]at hc
      obtain⟨_,rfl⟩:=hc
      simp[iO]
     ·cases hc
    ·cases hc
   ·cases hc
  ·cases hc
 | _=>exact one _ (fun _ _ _ h=>by cases h) rfl hc
theorem xl:∀ {ds ds':List D} {fr:List Nat},cT h ds=some (ds',fr)→∀x∈fr,x∈ds.flatMap iO
 | [],ds',fr,hc,x,hx=>by
  simp only[cT,Option.some.injEq,Prod.mk.injEq]at hc
  obtain⟨_,rfl⟩:=hc
  simp at hx
 | d::ds,ds',fr,hc,x,hx=>by
  simp only[cT]at hc
  split at hc
  ·rename_i h1
   split at hc
   ·rename_i h2
    simp only[Option.some.injEq,Prod.mk.injEq]at hc
    obtain⟨_,rfl⟩:=hc
    rw[List.flatMap_cons]
    rcases List.mem_append.1 hx with hx|hx
    ·exact List.mem_append_left _ (zC h1 x hx)
    ·exact List.mem_append_right _ (xl h2 x hx)
   ·cases hc
  ·cases hc
theorem Jc {d d':D} {fr:List Nat} (hc:bY h d=some (d',fr)):∀x∈fr,x∈nm d:=by
 rcases Sq d with⟨f,kk,xs,rfl⟩|hd
 ·simp only[bY]at hc
  split at hc
  ·rename_i h1
   simp only[Option.some.injEq,Prod.mk.injEq]at hc
   obtain⟨_,rfl⟩:=hc
   exact xl h1
  ·cases hc
 ·rw[Pf hd]
  rw[tr h hd]at hc
  exact zC hc
theorem gm:∀ {ds ds':List D} {fr:List Nat},cn h ds=some (ds',fr)→∀x∈fr,∃d∈ds,x∈nm d
 | [],ds',fr,hc,x,hx=>by
  simp only[cn,Option.some.injEq,Prod.mk.injEq]at hc
  obtain⟨_,rfl⟩:=hc
  simp at hx
 | d::ds,ds',fr,hc,x,hx=>by
  simp only[cn]at hc
  split at hc
  ·rename_i h1
   split at hc
   ·rename_i h2
    simp only[Option.some.injEq,Prod.mk.injEq]at hc
    obtain⟨_,rfl⟩:=hc
    rcases List.mem_append.1 hx with hx|hx
    ·exact⟨d,by simp,Jc h1 x hx⟩
    ·obtain⟨d',hd',hx'⟩:=gm h2 x hx
     exact⟨d',by simp[hd'],hx'⟩
   ·cases hc
  ·cases hc
theorem tJ {place:Nat→Option (Nat×Nat)} : ∀ {parts:List (Nat×D)} {cells:List D},(∀p∈parts,∀x∈nm p.2,h x=h' x)→ib h place cells parts=ib h' place cells parts
 | [],_,_=>rfl
 | (i,d)::parts,cells,hx=>by
  simp only[ib]
  rw[ri (hx (i,d) (by simp))]
  have ih:∀cells',ib h place cells' parts=ib h' place cells' parts:=fun cells'=>tJ (fun p hp=>hx p (by simp[hp]))
  simp only[ih]
theorem tK {place:Nat→Option (Nat×Nat)} : ∀ {parts:List (Nat×D)} {cells out:List D} {fr:List Nat},ib h place cells parts=some (out,fr)→∀x∈fr,∃p∈parts,x∈nm p.2
 | [],cells,out,fr,hc,x,hx=>by
  simp only[ib,Option.some.injEq,Prod.mk.injEq]at hc
  obtain⟨_,rfl⟩:=hc
  simp at hx
 | (i,d)::parts,cells,out,fr,hc,x,hx=>by
  simp only[ib]at hc
  split at hc
  ·rename_i h1 h2
   split at hc
   ·split at hc
    ·rename_i h3
     simp only[Option.some.injEq,Prod.mk.injEq]at hc
     obtain⟨_,rfl⟩:=hc
     rcases List.mem_append.1 hx with hx|hx
     ·exact⟨(i,d),by simp,qd h2 x hx⟩
     ·obtain⟨p,hp,hx'⟩:=tK h3 x hx
      exact⟨p,by simp[hp],hx'⟩
    ·cases hc
   ·cases hc
  ·cases hc
theorem gg {fr:List Nat} {p:Nat×Option Row} (hp:p∈iY h fr):p.1∈fr:=by
 unfold iY at hp
 obtain⟨x,hx,rfl⟩:=List.mem_map.1 hp
 exact hx
theorem D2 {τ:Ty} {d:D} (hx:∀x∈nm d,h x=h' x):dB τ h d=dB τ h' d:=by
 cases d<;>try rfl
 simp only[dB]
 rw[b7 (hx _ (by simp[nm,iO]))]
theorem tV {x v:Nat} (hx:h x=h' x):kx h x v=kx h' x v:=by
 unfold kx
 rw[hx]
theorem Hc {τ:Ty} {x v y:Nat} (hx:h x=h' x) (hy:h y=h' y):oC τ h x v y (kx h x v)=oC τ h' x v y (kx h' x v):=by
 rw[tV hx]
 cases kx h' x v with
 | none=>rfl
 | some q =>
  obtain⟨r,y',s,n⟩:=q
  simp only[oC]
  rw[hy,jv (fr:=[y]) (fun z hz=>by simp only[List.mem_singleton]at hz;subst hz;exact hy)]
theorem Jy {τ:Ty} {d:D} (hx:∀x∈nm d,h x=h' x):mw τ h d=mw τ h' d:=by
 have hl:=D2 (τ:=τ) hx
 cases d with
 | ptr x v o =>
  simp only[mw]
  rw[b7 (hx x (by simp[nm,iO]))]
  cases live h' x v with
  | none=>rfl
  | some r=>simp only[oD];rw[hl]
 | pm x v y =>
  simp only[mw]
  rw[b7 (hx x (by simp[nm,iO])),Hc (hx x (by simp[nm,iO])) (hx y (by simp[nm,iO]))]
 | _=>exact hl
theorem Ca {τ:Ty} {p d:D} (hp:∀x∈nm p,h x=h' x) (hx:∀x∈nm d,h x=h' x):cP τ h p d=cP τ h' p d:=by
 cases p<;>try rfl
 simp only[cP]
 rw[b7 (hp _ (by simp[nm,iO])),ri hx]
 cases live h' _ _ with
 | none=>rfl
 | some r =>
  cases hc:ez h' d with
  | none=>rfl
  | some q =>
   obtain⟨cs,fr⟩:=q
   simp only
   rw[jv (fr:=fr) (fun x hxf=>hx x (qd hc x hxf))]
theorem Hf {τ:Ty} {p d:D} (hp:∀x∈nm p,h x=h' x) (hx:∀x∈nm d,h x=h' x):cZ τ h p d=cZ τ h' p d:=by
 have hl:=Ca (τ:=τ) hp hx
 cases d with
 | box1 y vy s oy n =>
  cases p with
  | ptr x v o =>
   simp only[cZ]
   rw[b7 (hp _ (by simp[nm,iO]))]
  | pm x v k =>
   simp only[cZ]
   rw[b7 (hp x (by simp[nm,iO])),b7 (hx y (by simp[nm,iO]))]
  | _=>rfl
 | mp y' v' =>
  cases p with
  | pm x v y =>
   simp only[cZ]
   rw[b7 (hp x (by simp[nm,iO])),mA (hp y (by simp[nm,iO]))]
  | _=>rfl
 | _=>exact hl
theorem KP {d:D} (hx:∀x∈nm d,h x=h' x):mapOf h d=mapOf h' d:=by
 cases d<;>try rfl
 simp only[mapOf]
 rw[mA (hx _ (by simp[nm,iO]))]
theorem AM {τ:Ty} {m i:D} {ok:Bool} (hx:∀x∈nm m,h x=h' x):iN T τ h m i ok=iN T τ h' m i ok:=by
 unfold iN
 rw[KP hx]
theorem NY {d:D} (hx:∀x∈nm d,h x=h' x):xd h d=xd h' d:=by
 cases d<;>first|rfl|(simp only[xd];rw[kP hx])
theorem P6 {d d' : D} {fr : List Nat} (hc : xd h d = some (d', fr)) : ∀ x ∈ fr, x ∈ nm d := by
  cases d <;> simp only [xd] at hc <;> first
    | (simp only [Option.some.injEq, Prod.mk.injEq] at hc; obtain ⟨_, rfl⟩ := hc; simp; done)
    | (split at hc
       · rename_i h1
         simp only [Option.some.injEq, Prod.mk.injEq] at hc
         obtain ⟨_, rfl⟩ := hc
         exact qe h1
       · cases hc)
theorem oF {τ:Ty} {m i d:D} (hx:∀x∈nm m,h x=h' x) (hd:∀x∈nm d,h x=h' x):dC T τ h m i d=dC T τ h' m i d:=by
 unfold dC
 rw[NY hd]
 split
 ·rename_i y v n d' fr _ hv
  have hy:=hx y (by simp[nm,iO])
  rw[hy,mA hy]
  rw[jv (fun z hz=>hd z (P6 hv z hz))]
 ·rfl
theorem He {d:D} (hx:∀x∈nm d,h x=h' x):jh h d=jh h' d:=by
 cases d<;>try rfl
 simp only[jh]
 rw[b7 (hx _ (by simp[nm,iO]))]
theorem B8 {τ:Ty} {i:Nat} {d:D} (hx:∀x∈nm d,h x=h' x):dN T τ h i d=dN T τ h' i d:=by
 cases d<;>try rfl
 ·simp only[dN]
  rw[b7 (hx _ (by simp[nm,iO]))]
 ·simp only[dN]
  rw[tV (hx _ (by simp[nm,iO]))]
theorem wP {τ:Ty} {d i:D} (hx:∀x∈nm d,h x=h' x):bM T τ h d i=bM T τ h' d i:=by
 cases d<;>cases i<;>try rfl
 ·simp only[bM]
  rw[b7 (hx _ (by simp[nm,iO]))]
 ·simp only[bM]
  rw[b7 (hx _ (by simp[nm,iO]))]
theorem B9 {τ:Ty} {d:D} {lo hi mx:Option D} (hx:∀x∈nm d,h x=h' x):cK T τ h d lo hi mx=cK T τ h' d lo hi mx:=by
 cases d<;>try rfl
 simp only[cK]
 rw[b7 (hx _ (by simp[nm,iO]))]
theorem B7 {τ:Ty} {parts:List (Nat×D)} (hx:∀p∈parts,∀x∈nm p.2,h x=h' x):eQ T τ h parts=eQ T τ h' parts:=by
 unfold eQ
 have h1:∀pl cells,ib h pl cells parts=ib h' pl cells parts:=fun pl cells=>tJ hx
 split
 ·split
  ·rw[h1]
   split
   ·rename_i hf
    rw[jv (fun x hxf=>by obtain⟨p,hp,hx'⟩:=tK hf x hxf;exact hx p hp x hx')]
   ·rfl
  ·rfl
 ·rfl
theorem Ha {q:Nat→Bool} {τ:Ty} {dst:Option Nat} {parts:List (Nat×D)} (hx:∀p∈parts,∀x∈nm p.2,h x=h' x):oA q T τ h dst parts=oA q T τ h' dst parts:=by
 have hb:=B7 (T:=T) (τ:=τ) hx
 unfold oA
 split
 ·split
  ·exact hb
  ·split
   ·rename_i x v s o n _
    have e:alive h (.buf x v s o n)=alive h' (.buf x v s o n):=by
     simp only[alive]
     rw[b7 (hx (0,.buf x v s o n) (by simp) x (by simp[nm,iO]))]
    rw[e]
   ·rename_i x v s o n _
    have e:alive h (.buf x v s o n)=alive h' (.buf x v s o n):=by
     simp only[alive]
     rw[b7 (hx (0,.box1 x v s o n) (by simp) x (by simp[nm,iO]))]
    rw[e]
   ·rw[hb]
 ·exact hb
theorem vA {τ:Ty} {d len:Nat} {parts:List (Nat×D)} (hx:∀p∈parts,∀x∈nm p.2,h x=h' x):dM T τ h e d len parts=dM T τ h' e d len parts:=by
 unfold dM
 have h1:∀pl cells,ib h pl cells parts=ib h' pl cells parts:=fun pl cells=>tJ hx
 split
 ·split
  ·split
   ·rw[h1]
    split
    ·rename_i hf
     rw[jv (fun x hxf=>by obtain⟨p,hp,hx'⟩:=tK hf x hxf;exact hx p hp x hx')]
    ·rfl
   ·rfl
  ·rfl
 ·rfl
theorem AK {τ:Ty} {d:Nat} {s x:D} (hs:∀y∈nm s,h y=h' y) (hx:∀y∈nm x,h y=h' y):iM T τ h e d s x=iM T τ h' e d s x:=by
 unfold iM
 rw[DY hx]
 cases s<;>try rfl
 simp only
 rw[b7 (hs _ (by simp[nm,iO]))]
theorem Iy {d:D} (hx:∀x∈nm d,h x=h' x):alive h d=alive h' d:=by
 cases d<;>try rfl
 all_goals
  simp only[alive]
  rw[b7 (hx _ (by simp[nm,iO]))]
theorem yP {dst:Option Nat} {b:Builtin} {tys:List Nat} {args:List D} (hx:∀d∈args,∀x∈nm d,h x=h' x):cv T h e dst b tys args=cv T h' e dst b tys args:=by
 unfold cv
 split
 ·rw[Iy (hx _ (by simp))]
 ·split
  ·split
   ·rw[AK (hx _ (by simp)) (hx _ (by simp))]
   ·rfl
  ·rfl
 ·rfl
 ·rfl
 ·rfl
theorem zw {dst:Option Nat} {g:Nat} {args:List D} (hx:∀d∈args,∀x∈nm d,h x=h' x):tq Γ h e dst g args=tq Γ h' e dst g args:=by
 unfold tq
 rw[mV hx]
 split
 ·rename_i hf
  rw[jv (fun x hxf=>by obtain⟨d,hd,hx'⟩:=gm hf x hxf;exact hx d hd x hx')]
 ·rfl
theorem zy {dst:Option Nat} {g x v:Nat} {d0:D} {args:List D} (h0:h x=h' x) (hx:∀d∈args,∀x∈nm d,h x=h' x):so Γ h e dst g x v d0 args=so Γ h' e dst g x v d0 args:=by
 unfold so
 rw[b7 h0,mV hx]
 split
 ·split
  ·split
   ·rename_i hf
    rw[jv (fun x hxf=>by obtain⟨d,hd,hx'⟩:=gm hf x hxf;exact hx d hd x hx')]
   ·rfl
  ·rfl
 ·rfl
theorem IM {dst:Option Nat} {p:Nat×Nat×Nat} {args:List D} (hx:∀d∈args,∀x∈nm d,h x=h' x):sn h e dst p args=sn h' e dst p args:=by
 unfold sn
 split
 ·rw[b7 (hx _ List.mem_cons_self _ (by simp[nm,iO])),b7 (hx _ (List.mem_cons_of_mem _ (List.mem_cons_of_mem _ List.mem_cons_self)) _ (by simp[nm,iO]))]
 ·rfl
theorem IJ {p:Grow} {args:List D} (hx:∀d∈args,∀x∈nm d,h x=h' x):sk h p args=sk h' p args:=by
 unfold sk
 split
 ·rw[tV (hx _ List.mem_cons_self _ (by simp[nm,iO])),hx _ List.mem_cons_self _ (show _∈nm (D.pm _ _ _) by simp only[nm,iO];exact List.mem_cons_of_mem _ List.mem_cons_self)]
 ·rfl
theorem D1 {dst:Option Nat} {f:D} {args:List D} (hf:∀x∈nm f,h x=h' x) (hx:∀d∈args,∀x∈nm d,h x=h' x):gM Γ h e dst f args=gM Γ h' e dst f args:=by
 cases f<;>try rfl
 ·rename_i g
  simp only[gM]
  split
  ·exact IM hx
  split
  ·exact IJ hx
  split
  ·split
   ·exact zy (hx _ List.mem_cons_self _ (by simp[nm,iO])) (fun d hd=>hx d (List.mem_cons_of_mem _ hd))
   ·exact zy (hx _ List.mem_cons_self _ (by simp[nm,iO])) (fun d hd=>hx d (List.mem_cons_of_mem _ hd))
   ·rfl
  ·exact zw hx
 ·rename_i g kk caps
  simp only[gM]
  split
  ·rename_i hok
   rw[List.all_eq_true]at hok
   have hcap:∀d∈caps,∀x∈nm d,h x=h' x:=fun d hd x hxd=>by
    have:=hok d hd
    rw[Pf (fun f kk xs he=>by rw[he]at this;cases this)]at hxd
    exact hf x (List.mem_flatMap.2 ⟨d,hd,hxd⟩)
   refine zw fun d hd =>?_
   rcases List.mem_append.1 hd with hd|hd
   ·exact hcap d (List.mem_of_mem_take hd)
   ·rcases List.mem_append.1 hd with hd|hd
    ·exact hx d hd
    ·exact hcap d (List.mem_of_mem_drop hd)
  ·rfl
theorem sA {ty:Nat} {dst:Option Nat} {x:D} (hx:∀y∈nm x,h y=h' y):bR T ty e dst h x=bR T ty e dst h' x:=by
 unfold bR
 split
 ·rw[b7 (hx _ (by simp[nm,iO]))]
 ·rfl
 ·rfl
theorem G3 {d:D} (hx:∀x∈nm d,h x=h' x):oz h d=oz h' d:=by
 by_cases hd:∀xs,d ≠ .agg xs
 ·rw[uF hd,uF hd]
  exact kP hx
 ·simp only[ne_eq,Classical.not_forall,Classical.not_not]at hd
  obtain⟨xs,rfl⟩:=hd
  rfl
theorem Fc {d d':D} {fr:List Nat} (hc:oz h d=some (d',fr)):∀x∈fr,x∈nm d:=by
 by_cases hd:∀xs,d ≠ .agg xs
 ·rw[uF hd]at hc
  exact qe hc
 ·simp only[ne_eq,Classical.not_forall,Classical.not_not]at hd
  obtain⟨xs,rfl⟩:=hd
  simp only[oz,Option.some.injEq,Prod.mk.injEq]at hc
  obtain⟨_,rfl⟩:=hc
  simp
theorem G9 {q:Nat→Bool} {ty:Nat} {dst:Option Nat} {x:D} (hx:∀y∈nm x,h y=h' y):pX T q ty e dst h x=pX T q ty e dst h' x:=by
 unfold pX gQ
 rw[G3 hx]
 split
 ·rw[sA hx]
  split
  ·rfl
  ·split
   ·rename_i hc
    rw[jv fun y hy=>hx y (Fc hc y hy)]
   ·rfl
 ·exact sA hx
theorem Qp {vs : Operand → D} (hx : ∀ x ∈ bW o vs, h x = h' x) : l4 T Γ e o vs h = l4 T Γ e o vs h' := by
  have key : ∀ y, y ∈ o.op.operands.toList → (∀ a b c, o.op ≠ .pick a b c) → (∀ a, o.op ≠ .move a) → (∀ a b c, o.op ≠ .makeFunc a b c) → ∀ x ∈ nm (vs y), h x = h' x := by
    intro y hy h1 h2 h3 x hxm
    refine hx x ?_
    unfold bW
    split
    · rename_i ho; exact absurd ho (h2 _)
    · rename_i ho; exact absurd ho (h1 _ _ _)
    · rename_i ho; exact absurd ho (h3 _ _ _)
    · exact List.mem_append_left _ (List.mem_flatMap.2 ⟨y, hy, hxm⟩)
  unfold l4
  cases ho : o.op <;> (try simp only) <;> rw [ho] at key <;> try rfl
  case assign x => exact G9 (key x (by simp [Op.operands]) (by simp) (by simp) (by simp))
  case box ty x => rw [ri (key x (by simp [Op.operands]) (by simp) (by simp) (by simp))]
                   split
                   · rename_i hc
                     rw [jv (fun z hz => key x (by simp [Op.operands]) (by simp) (by simp) (by simp) z (qd hc z hz))]
                   · rfl
  case load ty x => simp only [Jy (key x (by simp [Op.operands]) (by simp) (by simp) (by simp))]
  case store ty x y => simp only [Hf (key x (by simp [Op.operands]) (by simp) (by simp) (by simp)) (key y (by simp [Op.operands]) (by simp) (by simp) (by simp))]
  case nilCheck x => exact He (key x (by simp [Op.operands]) (by simp) (by simp) (by simp))
  case fieldAddr ty x i => simp only [B8 (key x (by simp [Op.operands]) (by simp) (by simp) (by simp))]
  case makeMap ty res => cases res <;> rfl
  case lookup ty m i ok => simp only [AM (key m (by simp [Op.operands]) (by simp) (by simp) (by simp))]
  case mapUpdate ty m i x => simp only [oF (key m (by simp [Op.operands]) (by simp) (by simp) (by simp)) (key x (by simp [Op.operands]) (by simp) (by simp) (by simp))]
  case insert ty m i x => simp only [oF (key m (by simp [Op.operands]) (by simp) (by simp) (by simp)) (key x (by simp [Op.operands]) (by simp) (by simp) (by simp))]
  case indexAddr ty x i => simp only [wP (key x (by simp [Op.operands]) (by simp) (by simp) (by simp))]
  case slice ty x lo hi mx => simp only [B9 (key x (by simp [Op.operands]) (by simp) (by simp) (by simp))]
  case build ty parts =>
    have : ∀ p ∈ parts.toList.map (fun p => (p.1, vs p.2)), ∀ x ∈ nm p.2, h x = h' x := by
      intro p hp x hx'
      obtain ⟨q, hq, rfl⟩ := List.mem_map.1 hp
      exact key q.2 (by simp only [Op.operands, List.toList_toArray]; exact List.mem_map.2 ⟨q, hq, rfl⟩) (by simp) (by simp) (by simp) x hx'
    simp only [Ha this]
  case buildSlice ty len parts =>
    have : ∀ p ∈ parts.toList.map (fun p => (p.1, vs p.2)), ∀ x ∈ nm p.2, h x = h' x := by
      intro p hp x hx'
      obtain ⟨q, hq, rfl⟩ := List.mem_map.1 hp
      exact key q.2 (by simp only [Op.operands, List.toList_toArray]; exact List.mem_map.2 ⟨q, hq, rfl⟩) (by simp) (by simp) (by simp) x hx'
    simp only [vA this]
  case call c =>
    have : ∀ d ∈ c.args.toList.map vs, ∀ x ∈ nm d, h x = h' x := by
      intro d hd x hx'
      obtain ⟨y, hy, rfl⟩ := List.mem_map.1 hd
      exact key y (by simp only [Op.operands, Call.operands, Array.toList_append]; exact List.mem_append_right _ hy) (by simp) (by simp) (by simp) x hx'
    cases hc : c.callee with
    | value f => exact D1 (key f (by simp [Op.operands, Call.operands, hc]) (by simp) (by simp) (by simp)) this
    | builtin b => exact yP this
    | invoke _ _ => rfl
theorem WY {vs vs':Operand→D} (hx:∀y∈o.op.operands.toList,vs y=vs' y):l4 T Γ e o vs h=l4 T Γ e o vs' h∧bW o vs=bW o vs':=by
 refine⟨?_,?_⟩
 ·unfold l4
  cases ho:o.op<;>(try simp only)<;>rw[ho]at hx<;>try rfl
  case move x=>rw[hx x (by simp[Op.operands])]
  case assign x=>rw[hx x (by simp[Op.operands])]
  case pick a b c=>rw[hx a (by simp[Op.operands]),hx b (by simp[Op.operands]),hx c (by simp[Op.operands])]
  case box ty x=>rw[hx x (by simp[Op.operands])]
  case load ty x=>rw[hx x (by simp[Op.operands])]
  case store ty x y=>rw[hx x (by simp[Op.operands]),hx y (by simp[Op.operands])]
  case nilCheck x=>rw[hx x (by simp[Op.operands])]
  case fieldAddr ty x i=>rw[hx x (by simp[Op.operands])]
  case field ty x i=>rw[hx x (by simp[Op.operands])]
  case makeMap ty res=>cases res<;>rfl
  case lookup ty m i ok=>rw[hx m (by simp[Op.operands]),hx i (by simp[Op.operands])]
  case mapUpdate ty m i x=>rw[hx m (by simp[Op.operands]),hx i (by simp[Op.operands]),hx x (by simp[Op.operands])]
  case insert ty m i x=>rw[hx m (by simp[Op.operands]),hx i (by simp[Op.operands]),hx x (by simp[Op.operands])]
  case indexAddr ty x i=>rw[hx x (by simp[Op.operands]),hx i (by simp[Op.operands])]
  case index ty x i=>rw[hx x (by simp[Op.operands]),hx i (by simp[Op.operands])]
  case slice ty x lo hi mx =>
   rw[hx x (by simp[Op.operands])]
   have e1:lo.map vs=lo.map vs':=by cases lo with|none=>rfl|some y=>simp only[Option.map_some];rw[hx y (by simp[Op.operands])]
   have e2:hi.map vs=hi.map vs':=by cases hi with|none=>rfl|some y=>simp only[Option.map_some];rw[hx y (by simp[Op.operands])]
   have e3:mx.map vs=mx.map vs':=by cases mx with|none=>rfl|some y=>simp only[Option.map_some];rw[hx y (by simp[Op.operands])]
   rw[e1,e2,e3]
  case build ty parts =>
   have:parts.toList.map (fun p=>(p.1,vs p.2))=parts.toList.map (fun p=>(p.1,vs' p.2)):=List.map_congr_left fun p hp=>by rw[hx p.2 (by simp only[Op.operands,List.toList_toArray];exact List.mem_map.2 ⟨p,hp,rfl⟩)]
   rw[this]
  case buildSlice ty len parts =>
   have:parts.toList.map (fun p=>(p.1,vs p.2))=parts.toList.map (fun p=>(p.1,vs' p.2)):=List.map_congr_left fun p hp=>by rw[hx p.2 (by simp only[Op.operands,List.toList_toArray];exact List.mem_map.2 ⟨p,hp,rfl⟩)]
   rw[this]
  case makeSlice ty l c=>rw[hx l (by simp[Op.operands]),hx c (by simp[Op.operands])]
  case binOp op ty x y ty'=>rw[hx x (by simp[Op.operands]),hx y (by simp[Op.operands])]
  case unOp op ty x=>rw[hx x (by simp[Op.operands])]
  case convert s d x=>rw[hx x (by simp[Op.operands])]
  case makeFunc fn first caps =>
   have:caps.toList.map vs=caps.toList.map vs':=List.map_congr_left fun y hy=>hx y (by simp only[Op.operands,Array.toList_append];exact List.mem_append_right _ hy)
   have this2:first.toList.map vs=first.toList.map vs':=List.map_congr_left fun y hy=>hx y (by simp only[Op.operands,Array.toList_append];exact List.mem_append_left _ hy)
   rw[this,this2]
  case extract x i=>rw[hx x (by simp[Op.operands])]
  case call c =>
   have:c.args.toList.map vs=c.args.toList.map vs':=List.map_congr_left fun y hy=>hx y (by simp only[Op.operands,Call.operands,Array.toList_append];exact List.mem_append_right _ hy)
   cases hc:c.callee with
   | value f=>simp only;rw[this,hx f (by simp[Op.operands,Call.operands,hc])]
   | builtin b=>simp only;rw[this]
   | invoke _ _=>rfl
 ·have hfm:o.op.operands.toList.flatMap (fun y=>nm (vs y))=o.op.operands.toList.flatMap (fun y=>nm (vs' y)):=by
   rw[List.flatMap_def,List.flatMap_def]
   congr 1
   exact List.map_congr_left fun y hy=>by rw[hx y hy]
  unfold bW
  cases ho:o.op<;>simp only<;>rw[ho]at hfm<;>rw[hfm]
end
section
variable {T:Nat→Option Ty} {h h':Nat→Option Row} {e:Nat} {o:Oper} {Γ:Env}
theorem AL {τ:Ty} {d:Nat} {s x:D} {E:dS} (hE:iM T τ h e d s x=some E):∀p∈E.hw,p.1=d∨p.1∈nm s:=by
 unfold iM at hE
 split at hE
 ·split at hE
  ·split at hE
   ·split at hE
    ·split at hE
     ·split at hE
      ·simp only[Option.some.injEq]at hE;subst hE;intro p hp;simp at hp
      ·simp only[Option.some.injEq]at hE;subst hE;intro p hp;simp at hp;exact .inl (by rw[hp])
     ·cases hE
    ·split at hE
     ·split at hE
      ·simp only[Option.some.injEq]at hE;subst hE
       intro p hp
       simp only[List.mem_cons,List.not_mem_nil,or_false]at hp
       rcases hp with rfl|rfl
       ·exact .inr (by simp[nm,iO])
       ·exact .inl rfl
      ·cases hE
     ·cases hE
    ·cases hE
   ·cases hE
  ·cases hE
 ·cases hE
theorem zx {dst:Option Nat} {g:Nat} {args:List D} {E:dS} (hE:tq Γ h e dst g args=some E):∀p∈E.hw,dst=some p.1∨∃d∈args,p.1∈nm d:=by
 unfold tq at hE
 split at hE
 ·rename_i hca
  split at hE
  ·simp only[Option.some.injEq]at hE
   subst hE
   intro p hp
   simp only at hp
   split at hp
   ·simp at hp
   ·exact .inr (gm hca _ (gg hp))
  ·split at hE
   ·split at hE
    ·simp only[Option.some.injEq]at hE
     subst hE
     intro p hp
     simp only[List.mem_append,List.mem_singleton]at hp
     rcases hp with hp|rfl
     ·split at hp
      ·simp at hp
      ·exact .inr (gm hca _ (gg hp))
     ·exact .inl rfl
    ·cases hE
   ·cases hE
  ·cases hE
 ·cases hE
theorem IK {p:Grow} {args:List D} {E:dS} (hE:sk h p args=some E):∀q∈E.hw,∃d∈args,q.1∈nm d:=by
 unfold sk at hE
 split at hE<;>try (cases hE;done)
 split at hE<;>try (cases hE;done)
 split at hE<;>try (cases hE;done)
 rename_i hcond
 obtain⟨rfl,_⟩:=hcond
 split at hE<;>try (cases hE;done)
 simp only[Option.some.injEq]at hE
 subst hE
 intro q hq
 simp only[List.mem_cons,List.not_mem_nil,or_false]at hq
 rcases hq with rfl|rfl
 ·exact⟨_,List.mem_cons_self,by simp[nm,iO]⟩
 ·exact⟨_,List.mem_cons_self,by simp[nm,iO]⟩
theorem IN {dst:Option Nat} {p:Nat×Nat×Nat} {args:List D} {E:dS} (hE:sn h e dst p args=some E):∀q∈E.hw,dst=some q.1∨∃d∈args,q.1∈nm d:=by
 unfold sn at hE
 split at hE<;>try (cases hE;done)
 split at hE<;>try (cases hE;done)
 split at hE<;>try (cases hE;done)
 simp only[Option.some.injEq]at hE
 subst hE
 intro q hq
 simp only[List.mem_cons,List.not_mem_nil,or_false]at hq
 rcases hq with rfl|rfl|rfl
 ·exact .inr ⟨_,List.mem_cons_of_mem _ (List.mem_cons_of_mem _ List.mem_cons_self),by simp[nm,iO]⟩
 ·exact .inr ⟨_,List.mem_cons_self,by simp[nm,iO]⟩
 ·exact .inl rfl
theorem zA {dst:Option Nat} {g x v:Nat} {d0:D} {args:List D} {E:dS} (hE:so Γ h e dst g x v d0 args=some E):∀p∈E.hw,dst=some p.1∨p.1=x∨∃d∈args,p.1∈nm d:=by
 unfold so at hE
 split at hE<;>try (cases hE;done)
 split at hE<;>try (cases hE;done)
 split at hE<;>try (cases hE;done)
 rename_i hca
 split at hE<;>try (cases hE;done)
 split at hE<;>try (cases hE;done)
 ·simp only[Option.some.injEq]at hE
  subst hE
  intro p hp
  simp only[List.mem_append,List.mem_singleton]at hp
  rcases hp with hp|rfl
  ·exact .inr (.inr (gm hca _ (gg hp)))
  ·exact .inr (.inl rfl)
 ·simp only[Option.some.injEq]at hE
  subst hE
  intro p hp
  simp only[List.mem_append,List.mem_singleton]at hp
  rcases hp with hp|rfl
  ·exact .inr (.inr (gm hca _ (gg hp)))
  ·exact .inr (.inl rfl)
 ·split at hE<;>try (cases hE;done)
  split at hE<;>try (cases hE;done)
  simp only[Option.some.injEq]at hE
  subst hE
  intro p hp
  simp only[List.mem_append,List.mem_cons,List.not_mem_nil,or_false]at hp
  rcases hp with hp|rfl|rfl
  ·exact .inr (.inr (gm hca _ (gg hp)))
  ·exact .inr (.inl rfl)
  ·exact .inl rfl
theorem wQ {τ:Ty} {d:D} {E:dS} (hE:dB τ h d=some E):E.hw=[]:=by
 cases d<;>simp only[dB]at hE<;>try (cases hE;done)
 all_goals (repeat' split at hE)<;>first|(cases hE;done)|(simp only[Option.some.injEq]at hE;subst hE;rfl)
theorem SL {τ:Ty} {d:D} {E:dS} (hE:mw τ h d=some E):∀p∈E.hw,p.1∈nm d:=by
 have none_:E.hw=[]→∀p∈E.hw,p.1∈nm d:=fun he p hp=>by rw[he]at hp;simp at hp
 have hl:dB τ h d=some E→∀p∈E.hw,p.1∈nm d:=fun he=>none_ (wQ he)
 cases d with
 | ptr x v o =>
  simp only[mw]at hE
  cases hl:live h x v with
  | none=>rw[hl]at hE;cases hE
  | some r =>
   rw[hl]at hE
   simp only[oD]at hE
   split at hE
   ·split at hE
    ·split at hE
     ·exact none_ (by simp only[Option.some.injEq]at hE;subst hE;rfl)
     ·exact none_ (wQ hE)
    ·cases hE
   ·exact none_ (wQ hE)
 | pm x v y =>
  simp only[mw]at hE
  split at hE
  ·split at hE
   ·split at hE
    ·exact none_ (by simp only[Option.some.injEq]at hE;subst hE;rfl)
    ·cases hE
   ·cases hE
  ·unfold oC at hE
   split at hE
   ·split at hE
    ·split at hE
     ·simp only[Option.some.injEq]at hE
      subst hE
      intro p hp
      have:=gg hp
      simp only[List.mem_singleton]at this
      rw[this]
      simp[nm,iO]
     ·cases hE
    ·cases hE
   ·cases hE
 | _=>exact hl hE
theorem Cb {τ:Ty} {q d:D} {E:dS} (hE:cP τ h q d=some E):∀p∈E.hw,p.1∈nm d∨p.1∈nm q:=by
 cases q<;>simp only[cP]at hE<;>try (cases hE;done)
 split at hE
 ·split at hE
  ·rename_i hc
   split at hE
   ·simp only[Option.some.injEq]at hE
    subst hE
    intro p hp
    rcases List.mem_append.1 hp with hp|hp
    ·exact .inl (qd hc _ (gg hp))
    ·simp only[List.mem_singleton]at hp
     subst hp
     exact .inr (by simp[nm,iO])
   ·cases hE
  ·cases hE
 ·cases hE
theorem Hg {τ:Ty} {q d:D} {E:dS} (hE:cZ τ h q d=some E):∀p∈E.hw,p.1∈nm d∨p.1∈nm q:=by
 have hl:cP τ h q d=some E→∀p∈E.hw,p.1∈nm d∨p.1∈nm q:=Cb
 cases d with
 | box1 y vy s oy n =>
  cases q with
  | ptr x v o =>
   simp only[cZ]at hE
   split at hE
   ·split at hE
    ·simp only[Option.some.injEq]at hE
     subst hE
     intro p hp
     simp only[List.mem_singleton]at hp
     subst hp
     exact .inr (by simp[nm,iO])
    ·cases hE
   ·cases hE
  | pm x v k =>
   simp only[cZ]at hE
   split at hE
   ·split at hE
    ·simp only[Option.some.injEq]at hE
     subst hE
     intro p hp
     simp only[List.mem_cons,List.not_mem_nil,or_false]at hp
     rcases hp with rfl|rfl|rfl
     ·exact .inl (by simp[nm,iO])
     ·exact .inr (by simp[nm,iO])
     ·exact .inr (by simp[nm,iO])
    ·cases hE
   ·cases hE
  | _=>simp[cZ]at hE
 | mp y' v' =>
  cases q with
  | pm x v y =>
   simp only[cZ]at hE
   split at hE
   ·split at hE
    ·simp only[Option.some.injEq]at hE
     subst hE
     intro p hp
     simp only[List.mem_singleton]at hp
     subst hp
     exact .inr (by simp[nm,iO])
    ·cases hE
   ·cases hE
  | _=>simp[cZ]at hE
 | _=>exact hl hE
theorem Hd {τ:Ty} {m i:D} {ok:Bool} {E:dS} (hE:iN T τ h m i ok=some E):E.hw=[]:=by
 unfold iN at hE
 split at hE
 ·split at hE
  ·split at hE
   ·simp only[Option.some.injEq]at hE;subst hE;rfl
   ·cases hE
  ·cases hE
 ·cases hE
theorem oG {τ:Ty} {m i d:D} {E:dS} (hE:dC T τ h m i d=some E):∀p∈E.hw,p.1∈nm d∨p.1∈nm m:=by
 unfold dC at hE
 split at hE
 ·rename_i hv
  split at hE
  ·split at hE
   ·split at hE
    ·simp only[Option.some.injEq]at hE
     subst hE
     intro p hp
     rcases List.mem_append.1 hp with hp|hp
     ·exact .inl (P6 hv _ (gg hp))
     ·simp only[List.mem_singleton]at hp
      subst hp
      exact .inr (by simp[nm,iO])
    ·cases hE
   ·cases hE
  ·cases hE
 ·cases hE
theorem oB {τ:Ty} {parts:List (Nat×D)} {E:dS} (hE:eQ T τ h parts=some E):∀p∈E.hw,∃q∈parts,p.1∈nm q.2:=by
 unfold eQ at hE
 split at hE
 ·split at hE
  ·split at hE
   ·rename_i hf
    simp only[Option.some.injEq]at hE
    subst hE
    intro p hp
    exact tK hf _ (gg hp)
   ·cases hE
  ·cases hE
 ·cases hE
theorem Hb {q:Nat→Bool} {τ:Ty} {dst:Option Nat} {parts:List (Nat×D)} {E:dS} (hE:oA q T τ h dst parts=some E):∀p∈E.hw,∃q∈parts,p.1∈nm q.2:=by
 unfold oA at hE
 split at hE
 ·split at hE
  ·exact oB hE
  ·split at hE
   ·split at hE
    ·simp only[Option.some.injEq]at hE
     subst hE
     intro p hp
     simp at hp
    ·cases hE
   ·split at hE
    ·simp only[Option.some.injEq]at hE
     subst hE
     intro p hp
     simp at hp
    ·cases hE
   ·unfold cE at hE
    split at hE
    ·rename_i hb
     simp only[Option.some.injEq]at hE
     subst hE
     have hh:=oB hb
     exact hh
    ·cases hE
 ·exact oB hE
theorem Qq {vs:Operand→D} {E:dS} (hE:l4 T Γ e o vs h=some E):∀p∈E.hw,p.1∈bW o vs:=by
 have key:∀y,y∈o.op.operands.toList→(∀a b c,o.op ≠ .pick a b c)→(∀a,o.op ≠ .move a)→(∀a b c,o.op ≠ .makeFunc a b c)→∀x∈nm (vs y),x∈bW o vs:=by
  intro y hy h1 h2 h3 x hxm
  unfold bW
  split
  ·rename_i ho;exact absurd ho (h2 _)
  ·rename_i ho;exact absurd ho (h1 _ _ _)
  ·rename_i ho;exact absurd ho (h3 _ _ _)
  ·exact List.mem_append_left _ (List.mem_flatMap.2 ⟨y,hy,hxm⟩)
 have keyd:∀d,o.dst=some d→(∀a b c,o.op ≠ .pick a b c)→(∀a,o.op ≠ .move a)→(∀a b c,o.op ≠ .makeFunc a b c)→d∈bW o vs:=by
  intro d hd h1 h2 h3
  unfold bW
  split
  ·rename_i ho;exact absurd ho (h2 _)
  ·rename_i ho;exact absurd ho (h1 _ _ _)
  ·rename_i ho;exact absurd ho (h3 _ _ _)
  ·exact List.mem_append_right _ (by rw[hd];simp)
 have none_:∀(d:D),(some ⟨d,[]⟩:Option dS)=some E→∀p∈E.hw,p.1∈bW o vs:=by
  intro d he p hp
  simp only[Option.some.injEq]at he
  subst he
  simp at hp
 unfold l4 at hE
 cases ho:o.op<;>rw[ho]at hE key keyd<;>simp only at hE<;>try (cases hE;done)
 case move x=>exact none_ _ hE
 case assign x =>
  have hold:bR T o.type e o.dst h (vs x)=some E→∀p∈E.hw,p.1∈bW o vs:=by
   intro hE
   unfold bR at hE
   split at hE
   ·rename_i y v s c n hx
    split at hE
    ·rename_i hd _
     split at hE
     ·exact none_ _ hE
     ·simp only[Option.some.injEq]at hE
      subst hE
      intro p hp
      simp only[List.mem_cons,List.not_mem_nil,or_false]at hp
      rcases hp with rfl|rfl
      ·exact key x (by simp[Op.operands]) (by simp) (by simp) (by simp) _ (by rw[hx];simp[nm,iO])
      ·exact keyd _ hd (by simp) (by simp) (by simp)
    ·exact none_ _ hE
   ·split at hE
    ·rename_i hd _
     split at hE
     ·split at hE
      ·simp only[Option.some.injEq]at hE
       subst hE
       intro p hp
       simp only[List.mem_singleton]at hp
       subst hp
       exact keyd _ hd (by simp) (by simp) (by simp)
      ·cases hE
     ·cases hE
    ·cases hE
   ·exact none_ _ hE
  unfold pX at hE
  split at hE
  ·rename_i d hd
   split at hE
   ·rw[← hd]at hE;exact hold hE
   ·unfold gQ at hE
    split at hE
    ·rename_i d' fr hc
     simp only[Option.some.injEq]at hE
     subst hE
     intro p hp
     exact key x (by simp[Op.operands]) (by simp) (by simp) (by simp) _ (Fc hc _ (gg hp))
    ·cases hE
  ·rename_i hd;rw[← hd]at hE;exact hold hE
 case pick a b c =>
  split at hE
  ·exact none_ _ hE
  ·exact none_ _ hE
  ·cases hE
 case alloc ty =>
  split at hE
  ·rename_i hd
   split at hE
   ·simp only[Option.some.injEq]at hE
    subst hE
    intro p hp
    simp only[List.mem_singleton]at hp
    subst hp
    exact keyd _ hd (by simp) (by simp) (by simp)
   ·cases hE
  ·cases hE
 case box ty x =>
  split at hE
  ·rename_i hd hc
   split at hE
   ·simp only[Option.some.injEq]at hE
    subst hE
    intro p hp
    rcases List.mem_append.1 hp with hp|hp
    ·exact key x (by simp[Op.operands]) (by simp) (by simp) (by simp) _ (qd hc _ (gg hp))
    ·simp only[List.mem_singleton]at hp
     subst hp
     exact keyd _ hd (by simp) (by simp) (by simp)
   ·cases hE
  ·cases hE
 case load ty x =>
  split at hE
  ·intro p hp
   exact key x (by simp[Op.operands]) (by simp) (by simp) (by simp) _ (SL hE p hp)
  ·cases hE
 case store ty x y =>
  split at hE
  ·intro p hp
   rcases Hg hE p hp with hh|hh
   ·exact key y (by simp[Op.operands]) (by simp) (by simp) (by simp) _ hh
   ·exact key x (by simp[Op.operands]) (by simp) (by simp) (by simp) _ hh
  ·cases hE
 case makeMap ty res =>
  cases res with
  | some _=>cases hE
  | none =>
   simp only at hE
   split at hE
   ·rename_i hd
    unfold oE at hE
    split at hE
    ·simp only[Option.some.injEq]at hE
     subst hE
     intro p hp
     simp only[List.mem_singleton]at hp
     subst hp
     exact keyd _ hd (by simp) (by simp) (by simp)
    ·cases hE
   ·cases hE
 case lookup ty m i ok =>
  split at hE
  ·intro p hp
   rw[Hd hE]at hp
   simp at hp
  ·cases hE
 case mapUpdate ty m i x =>
  split at hE
  ·intro p hp
   rcases oG hE p hp with hh|hh
   ·exact key x (by simp[Op.operands]) (by simp) (by simp) (by simp) _ hh
   ·exact key m (by simp[Op.operands]) (by simp) (by simp) (by simp) _ hh
  ·cases hE
 case insert ty m i x =>
  split at hE
  ·intro p hp
   rcases oG hE p hp with hh|hh
   ·exact key x (by simp[Op.operands]) (by simp) (by simp) (by simp) _ hh
   ·exact key m (by simp[Op.operands]) (by simp) (by simp) (by simp) _ hh
  ·cases hE
 case nilCheck x =>
  cases hx:vs x<;>rw[hx]at hE<;>simp only[jh]at hE<;>try (cases hE;done)
  ·split at hE
   ·exact none_ _ hE
   ·cases hE
  ·exact none_ _ hE
 case fieldAddr ty x i =>
  split at hE
  ·cases hx:vs x<;>rw[hx]at hE<;>simp only[dN]at hE<;>try (cases hE;done)
   ·split at hE
    ·split at hE
     ·split at hE
      ·split at hE
       ·cases hE
       ·exact none_ _ hE
      ·cases hE
     ·cases hE
    ·cases hE
   ·split at hE
    ·split at hE
     ·split at hE
      ·split at hE
       ·cases hE
       ·exact none_ _ hE
      ·cases hE
     ·cases hE
    ·cases hE
   ·split at hE
    ·split at hE
     ·split at hE
      ·split at hE
       ·cases hE
       ·exact none_ _ hE
      ·cases hE
     ·cases hE
    ·cases hE
  ·cases hE
 case field ty x i =>
  split at hE
  ·cases hx:vs x<;>rw[hx]at hE<;>simp only[kR]at hE<;>try (cases hE;done)
   split at hE
   ·split at hE
    ·split at hE
     ·split at hE
      ·exact none_ _ hE
      ·cases hE
     ·cases hE
    ·cases hE
   ·cases hE
  ·cases hE
 case indexAddr ty x i =>
  split at hE
  ·cases hx:vs x<;>cases hi:vs i<;>rw[hx,hi]at hE<;>simp only[bM]at hE<;>try (cases hE;done)
   all_goals
    split at hE
    ·split at hE
     ·split at hE
      ·exact none_ _ hE
      ·cases hE
     ·cases hE
    ·cases hE
  ·cases hE
 case index ty x i =>
  split at hE
  ·cases hx:vs x<;>cases hi:vs i<;>rw[hx,hi]at hE<;>simp only[fT]at hE<;>try (cases hE;done)
   ·split at hE
    ·split at hE
     ·split at hE
      ·exact none_ _ hE
      ·cases hE
     ·cases hE
    ·cases hE
   ·split at hE
    ·split at hE
     ·split at hE
      ·split at hE
       ·exact none_ _ hE
       ·cases hE
      ·cases hE
     ·cases hE
    ·cases hE
  ·cases hE
 case slice ty x lo hi mx =>
  split at hE
  ·unfold cK at hE
   split at hE
   ·split at hE
    ·exact none_ _ hE
    ·cases hE
   ·split at hE
    ·split at hE
     ·split at hE
      ·exact none_ _ hE
      ·split at hE
       ·split at hE
        ·exact none_ _ hE
        ·cases hE
       ·cases hE
     ·cases hE
    ·cases hE
   ·split at hE
    ·split at hE
     ·split at hE
      ·exact none_ _ hE
      ·cases hE
     ·cases hE
    ·cases hE
   ·cases hE
  ·cases hE
 case build ty parts =>
  split at hE
  ·intro p hp
   obtain⟨q,hq,hx⟩:=Hb hE p hp
   obtain⟨y,hy,rfl⟩:=List.mem_map.1 hq
   exact key y.2 (by simp only[Op.operands,List.toList_toArray];exact List.mem_map.2 ⟨y,hy,rfl⟩) (by simp) (by simp) (by simp) _ hx
  ·cases hE
 case buildSlice ty len parts =>
  split at hE
  ·rename_i hd
   unfold dM at hE
   split at hE
   ·split at hE
    ·split at hE
     ·split at hE
      ·rename_i hf
       split at hE
       ·simp only[Option.some.injEq]at hE
        subst hE
        intro p hp
        rcases List.mem_append.1 hp with hp|hp
        ·obtain⟨q,hq,hx⟩:=tK hf _ (gg hp)
         obtain⟨y,hy,rfl⟩:=List.mem_map.1 hq
         exact key y.2 (by simp only[Op.operands,List.toList_toArray];exact List.mem_map.2 ⟨y,hy,rfl⟩) (by simp) (by simp) (by simp) _ hx
        ·simp only[List.mem_singleton]at hp
         subst hp
         exact keyd _ hd (by simp) (by simp) (by simp)
       ·cases hE
      ·cases hE
     ·cases hE
    ·cases hE
   ·cases hE
  ·cases hE
 case makeSlice ty l c =>
  split at hE
  ·rename_i hd
   unfold pn at hE
   split at hE
   ·split at hE
    ·split at hE
     ·simp only[Option.some.injEq]at hE
      subst hE
      intro p hp
      simp only[List.mem_singleton]at hp
      subst hp
      exact keyd _ hd (by simp) (by simp) (by simp)
     ·cases hE
    ·cases hE
   ·cases hE
  ·cases hE
 case binOp op ty x y ty' =>
  split at hE
  ·exact none_ _ hE
  ·cases hE
 case unOp op ty x =>
  split at hE
  ·exact none_ _ hE
  ·cases hE
 case makeFunc fn first caps =>
  split at hE
  ·split at hE
   ·exact none_ _ hE
   ·cases hE
  ·cases hE
 case convert s d x =>
  split at hE
  ·split at hE
   ·exact none_ _ hE
   ·cases hE
  ·cases hE
 case extract x i =>
  split at hE
  ·split at hE
   ·exact none_ _ hE
   ·cases hE
  ·cases hE
 case call c =>
  cases hc:c.callee with
  | invoke _ _=>rw[hc]at hE;cases hE
  | value f =>
   rw[hc]at hE
   simp only at hE
   have karg:∀d∈c.args.toList.map vs,∀x∈nm d,x∈bW o vs:=by
    intro d hd x hx
    obtain⟨y,hy,rfl⟩:=List.mem_map.1 hd
    exact key y (by simp only[Op.operands,Call.operands,Array.toList_append];exact List.mem_append_right _ hy) (by simp) (by simp) (by simp) _ hx
   have kdst:∀d,o.dst=some d→d∈bW o vs:=fun d hd=>keyd d hd (by simp) (by simp) (by simp)
   have kfn:∀x∈nm (vs f),x∈bW o vs:=key f (by simp[Op.operands,Call.operands,hc]) (by simp) (by simp) (by simp)
   generalize c.args.toList.map vs=ds at *
   unfold gM at hE
   split at hE
   ·split at hE
    ·intro p hp
     rcases IN hE p hp with hh|⟨d,hd,hx⟩
     ·exact kdst _ hh
     ·exact karg d hd _ hx
    split at hE
    ·intro p hp
     obtain⟨d,hd,hx⟩:=IK hE p hp
     exact karg d hd _ hx
    split at hE
    ·split at hE
     ·intro p hp
      rcases zA hE p hp with hh|hh|⟨d,hd,hx⟩
      ·exact kdst _ hh
      ·exact karg _ List.mem_cons_self _ (by rw[hh];simp[nm,iO])
      ·exact karg d (List.mem_cons_of_mem _ hd) _ hx
     ·intro p hp
      rcases zA hE p hp with hh|hh|⟨d,hd,hx⟩
      ·exact kdst _ hh
      ·exact karg _ List.mem_cons_self _ (by rw[hh];simp[nm,iO])
      ·exact karg d (List.mem_cons_of_mem _ hd) _ hx
     ·cases hE
    ·intro p hp
     rcases zx hE p hp with hh|⟨d,hd,hx⟩
     ·exact kdst _ hh
     ·exact karg d hd _ hx
   ·rename_i g kk caps hfv
    split at hE
    ·rename_i hok
     rw[List.all_eq_true]at hok
     have kcap:∀d∈caps,∀x∈nm d,x∈bW o vs:=fun d hd x hx=>by
      have:=hok d hd
      rw[Pf (fun f kk xs he=>by rw[he]at this;cases this)]at hx
      exact kfn _ (by rw[hfv];exact List.mem_flatMap.2 ⟨d,hd,hx⟩)
     intro p hp
     rcases zx hE p hp with hh|⟨d,hd,hx⟩
     ·exact kdst _ hh
     ·rcases List.mem_append.1 hd with hd|hd
      ·exact kcap d (List.mem_of_mem_take hd) _ hx
      ·rcases List.mem_append.1 hd with hd|hd
       ·exact karg d hd _ hx
       ·exact kcap d (List.mem_of_mem_drop hd) _ hx
    ·cases hE
   ·cases hE
  | builtin b =>
   rw[hc]at hE
   simp only at hE
   unfold cv at hE
   split at hE
   ·split at hE
    ·split at hE
     ·split at hE
      ·exact none_ _ hE
      ·exact none_ _ hE
      ·exact none_ _ hE
      ·cases hE
     ·cases hE
    ·cases hE
   ·rename_i s x hargs
    obtain⟨ps,px,hl,rfl,rfl⟩:=Pd hargs
    split at hE
    ·split at hE
     ·rename_i hd
      intro p hp
      rcases AL hE p hp with h1|h1
      ·rw[h1];exact keyd _ hd (by simp) (by simp) (by simp)
      ·exact key ps (by simp only[Op.operands,Call.operands,Array.toList_append];exact List.mem_append_right _ (by rw[hl];simp)) (by simp) (by simp) (by simp) _ h1
     ·cases hE
    ·cases hE
   ·split at hE
    ·exact none_ _ hE
    ·cases hE
   ·split at hE
    ·exact none_ _ hE
    ·cases hE
   ·cases hE
end
structure kI where
 tc:List Nat
 q:Bool
def tP (ops:Array Oper) (t:Nat→D) (o:Oper):Option Bool :=
 match o.guard with
 | none=>some true
 | some (j,want) =>
  match (ops[j]?).bind (·.dst) with
  | some g=>match t g with | .bool b=>some (b==want) | .skp=>some false|_=>none
  | none=>none
def eR (t:Nat→D) (dst:Option Nat) (d:D):Nat→D :=
 match dst with
 | none=>t
 | some i=>er t i d
def fits (N:Nat) (dst:Option Nat):Bool :=
 match dst with
 | none=>true
 | some i=>decide (i<N)
def step1 (T:Nat→Option Ty) (Γ:Env) (N e:Nat) (ops:Array Oper) (o:Oper) (t:Nat→D) (h:Nat→Option Row):Option ((Nat→D)×(Nat→Option Row)×kI) :=
 if fits N o.dst then
  match tP ops t o with
  | some true =>
   match l4 T Γ e o (ev t) h with
   | some E=>some (eR t o.dst E.val,bm h E.hw,⟨bW o (ev t),E.hw.isEmpty⟩)
   | none=>none
  | some false=>some (eR t o.dst .skp,h,⟨[],true⟩)
  | none=>none
 else none
section
variable {P:Program} {T:Nat→Option Ty} {N:Nat} {M:Nat→Prop} {L:sS} {w0:World} {blk:Nat→Option (Nat×Nat)} {t:Nat→D} {h:Nat→Option Row} {a:Act} {w:World} {e:Nat} {o:Oper} {Γ:Env} {ops:Array Oper}
def Vd (N e:Nat) (done:List Nat) (x v:Nat):Prop:=x<N∧(v<e∨(v=e∧x∈done))
theorem xL {V:Nat→Nat→Prop} (hI:Inv N M L w0 blk V t h a w) {b:Bool} (hg:tP ops t o=some b):Region.wanted o (yielded ops a.tmps)=b:=by
 unfold tP at hg
 split at hg
 ·rename_i ho
  simp only[Option.some.injEq]at hg
  subst hg
  simp[Region.wanted,ho]
 ·rename_i j want ho
  split at hg
  ·rename_i g hgd
   split at hg
   ·rename_i b' hb
    simp only[Option.some.injEq]at hg
    subst hg
    have hs:=hI.slots g
    rw[hb]at hs
    have hv:=uD hs
    have hget:a.tmps[g]? = some (.bool b'):=by
     simp only[Array.getD_eq_getD_getElem?]at hv
     cases hx:a.tmps[g]? with
     | none=>rw[hx]at hv;cases hv
     | some v=>rw[hx]at hv;simp only[Option.getD_some]at hv;rw[hv]
    have hy:yielded ops a.tmps j=some b':=by
     unfold yielded
     rw[hgd]
     simp[hget]
    simp only[Region.wanted,ho,hy]
    cases b'<;>cases want<;>rfl
   ·rename_i hb
    simp only[Option.some.injEq]at hg
    subst hg
    have hs:=hI.slots g
    rw[hb]at hs
    have hv:a.tmps.getD g undef=undef:=hs
    have hy:yielded ops a.tmps j=none:=by
     unfold yielded
     rw[hgd]
     simp only[Array.getD_eq_getD_getElem?]at hv
     cases hx:a.tmps[g]? with
     | none=>simp only[Option.bind_some,hx]
     | some v=>rw[hx]at hv;simp only[Option.getD_some]at hv;subst hv;simp only[Option.bind_some,hx];rfl
    simp only[Region.wanted,ho,hy]
    cases want<;>rfl
   ·cases hg
  ·cases hg
theorem Inv.Yr {V:Nat→Nat→Prop} (hI:Inv N M L w0 blk V t h a w) (hf:fits N o.dst=true) {d:D} {v:Value} (hx:RT w (Own M h blk) h blk V d v):Inv N M L w0 blk V (eR t o.dst d) h (a.put o.dst v) w:=by
 cases hd:o.dst with
 | none=>simpa [eR,Act.put] using hI
 | some i =>
  rw[hd]at hf
  exact hI.put (by simpa [fits] using hf) hx
theorem Pz (hT:lC P T) (hΓ:bN P Γ) {done:List Nat} {t':Nat→D} {h':Nat→Option Row} {f:kI} {K:Act→World→Prop} {Q:Exit→Act→World→Prop} (hI:Inv N M L w0 blk (Vd N e done) t h a w)
  (hs:step1 T Γ N e ops o t h=some (t',h',f)) (hd:∀d,o.dst=some d→d∉done) (hK:∀a' w' blk',Inv N M L w0 blk' (Vd N e (o.dst.toList++done)) t' h' a' w'→K a' w') :
  if Region.wanted o (yielded ops a.tmps) then o.wp P a w K Q∨(o.asks P a w∧LetsOut Q) else K (a.put o.dst undef) w:=by
 unfold step1 at hs
 split at hs
 ·rename_i hf
  split at hs
  ·rename_i hg
   rw[xL hI hg]
   simp only[if_true]
   split at hs
   ·rename_i E hE
    simp only[Option.some.injEq,Prod.mk.injEq]at hs
    obtain⟨rfl,rfl,_⟩:=hs
    have hV:∀d,o.dst=some d→kn N (Vd N e done) d e:=by
     intro d hd'
     refine⟨fun hv =>?_,by rw[hd']at hf;simpa [fits] using hf⟩
     rcases hv with⟨_,hv|⟨_,hv⟩⟩
     ·omega
     ·exact hd d hd' hv
    have:=Qr hT hΓ hI hV (fun _ _ h=>h.1) hE
    refine .inl (this.wp fun v w' hA =>?_)
    obtain⟨blk',hI',hR⟩:=hA
    refine hK _ _ blk' (Inv.weaken (hI'.Yr hf hR) fun x n hx =>?_)
    rcases hx with⟨hn,hx|⟨hx,hx'⟩⟩|⟨hx,hx'⟩
    ·exact⟨hn,.inl hx⟩
    ·exact⟨hn,.inr ⟨hx,List.mem_append_right _ hx'⟩⟩
    ·exact⟨(hV _ hx).lt,.inr ⟨hx',List.mem_append_left _ (by rw[hx];simp)⟩⟩
   ·cases hs
  ·rename_i hg
   rw[xL hI hg]
   simp only[Bool.false_eq_true,if_false]
   simp only[Option.some.injEq,Prod.mk.injEq]at hs
   obtain⟨rfl,rfl,_⟩:=hs
   refine hK _ _ blk (Inv.weaken (hI.Yr hf (d := .skp) (v:=undef) rfl) fun x n hx =>?_)
   rcases hx with⟨hn,hx|⟨hx,hx'⟩⟩
   ·exact⟨hn,.inl hx⟩
   ·exact⟨hn,.inr ⟨hx,List.mem_append_right _ hx'⟩⟩
  ·cases hs
 ·cases hs
theorem eX {x:Nat} : ∀ {l:List (Nat×Option Row)} {h:Nat→Option Row},(∀p∈l,p.1≠x)→bm h l x=h x
 | [],_,_=>rfl
 | (y,r)::l,h,hn=>by
  simp only[bm]
  rw[eX (fun p hp=>hn p (by simp[hp]))]
  exact bA _ _ (fun e=>hn (y,r) (by simp) e.symm)
theorem yI {x:Nat} : ∀ {l:List (Nat×Option Row)} {h h':Nat→Option Row},(∃p∈l,p.1=x)→bm h l x=bm h' l x
 | [],_,_,he=>by obtain⟨p,hp,_⟩:=he;simp at hp
 | (y,r)::l,h,h',he=>by
  simp only[bm]
  by_cases hl:∃p∈l,p.1=x
  ·exact yI hl
  ·have hn:∀p∈l,p.1≠x:=fun p hp hpx=>hl ⟨p,hp,hpx⟩
   rw[eX hn,eX hn]
   obtain⟨p,hp,hpx⟩:=he
   rcases List.mem_cons.1 hp with rfl|hp
   ·simp only at hpx;subst hpx;rw[bB,bB]
   ·exact absurd hpx (hn p hp)
theorem Iz {l l':List (Nat×Option Row)} {h:Nat→Option Row} (hd:∀p∈l,∀q∈l',p.1≠q.1):bm (bm h l) l'=bm (bm h l') l:=by
 funext x
 by_cases h1:∃p∈l,p.1=x
 ·obtain⟨p,hp,rfl⟩:=h1
  rw[eX (fun q hq e=>hd p hp q hq e.symm)]
  exact yI ⟨p,hp,rfl⟩
 ·have hn:∀p∈l,p.1≠x:=fun p hp hpx=>h1 ⟨p,hp,hpx⟩
  rw[eX hn]
  by_cases h2:∃p∈l',p.1=x
  ·exact yI h2
  ·have hn':∀p∈l',p.1≠x:=fun p hp hpx=>h2 ⟨p,hp,hpx⟩
   rw[eX hn',eX hn',eX hn]
theorem Q8 {t:Nat→D} {x y:Option Nat} {v u:D} (hne:∀d,x=some d→y≠some d):eR (eR t x v) y u=eR (eR t y u) x v:=by
 cases x with
 | none=>rfl
 | some i =>
  cases y with
  | none=>rfl
  | some j=>exact UD t v u (fun e=>hne i rfl (by rw[e]))
theorem Pp {t:Nat→D} {x:Option Nat} {v:D} {s:Nat} (hne:x≠some s):eR t x v s=t s:=by
 cases x with
 | none=>rfl
 | some i=>exact bA _ _ (fun e=>hne (by rw[e]))
theorem LP {t t1:Nat→D} {h h1:Nat→Option Row} {f:kI} (hs:step1 T Γ N e ops o t h=some (t1,h1,f)) :
  ∃v hw,t1=eR t o.dst v∧h1=bm h hw∧(∀p∈hw,p.1∈f.tc)∧(f.q=true→hw=[]) ∧
   ∀t' h',(∀s∈o.looksAt ops,t s=t' s)→(∀x∈f.tc,h x=h' x)→step1 T Γ N e ops o t' h'=some (eR t' o.dst v,bm h' hw,f):=by
 have hgd:∀t':Nat→D,(∀s∈o.looksAt ops,t s=t' s)→tP ops t o=tP ops t' o:=by
  intro t' ht
  unfold tP
  split
  ·rfl
  ·rename_i j want ho
   split
   ·rename_i g hg
    rw[ht g (by simp[Oper.looksAt,ho,hg])]
   ·rfl
 have hvs:∀t':Nat→D,(∀s∈o.looksAt ops,t s=t' s)→∀y∈o.op.operands.toList,ev t y=ev t' y:=by
  intro t' ht y hy
  cases y with
  | tmp i=>exact ht i (by unfold Oper.looksAt;exact List.mem_append_left _ (List.mem_filterMap.2 ⟨_,hy,rfl⟩))
  | const v=>rfl
  | global g=>rfl
  | func f=>rfl
 unfold step1 at hs
 split at hs
 ·rename_i hf
  split at hs
  ·rename_i hg
   split at hs
   ·rename_i E hE
    simp only[Option.some.injEq,Prod.mk.injEq]at hs
    obtain⟨rfl,rfl,rfl⟩:=hs
    refine⟨E.val,E.hw,rfl,rfl,Qq hE,fun hq=>by simpa using hq,fun t' h' ht hh =>?_⟩
    obtain⟨e1,e2⟩:=WY (T:=T) (Γ:=Γ) (e:=e) (h:=h) (hvs t' ht)
    have e3:l4 T Γ e o (ev t') h'=some E:=by
     rw[← hE,e1]
     exact (Qp (fun x hx=>hh x (by rw[e2];exact hx))).symm
    unfold step1
    rw[if_pos hf,← hgd t' ht,hg]
    simp only[e3,e2]
   ·cases hs
  ·rename_i hg
   simp only[Option.some.injEq,Prod.mk.injEq]at hs
   obtain⟨rfl,rfl,rfl⟩:=hs
   refine⟨.skp,[],rfl,rfl,fun p hp=>by simp at hp,fun _=>rfl,fun t' h' ht hh =>?_⟩
   unfold step1
   rw[if_pos hf,← hgd t' ht,hg]
   rfl
  ·cases hs
 ·cases hs
def Md (T:Nat→Option Ty) (Γ:Env) (N e:Nat) (ops:Array Oper) (F:Nat→kI):List Nat→(Nat→D)→(Nat→Option Row)→(Nat→D)→(Nat→Option Row)→Prop
 | [],t,h,t',h'=>t=t'∧h=h'
 | i::L,t,h,t',h'=>∃o t1 h1,ops[i]? = some o∧step1 T Γ N e ops o t h=some (t1,h1,F i)∧Md T Γ N e ops F L t1 h1 t' h'
def Vb (l l':List Nat):Bool:=l.all fun x => !l'.contains x
structure N8 (ops:Array Oper) (F:Nat→kI) (j i:Nat):Prop where
 apart:∀oj oi,ops[j]? = some oj→ops[i]? = some oi→oj.apart ops oi=true
 foot:((F j).q&&(F i).q||Vb (F j).tc (F i).tc)=true
theorem swap {F:Nat→kI} {i j:Nat} {L:List Nat} {t t':Nat→D} {h h':Nat→Option Row} (hr:Md T Γ N e ops F (j::i::L) t h t' h') (hi:N8 ops F j i):Md T Γ N e ops F (i::j::L) t h t' h':=by
 obtain⟨oj,t1,h1,hoj,hsj,oi,t2,h2,hoi,hsi,hrest⟩:=hr
 obtain⟨a1,a2,a3⟩:=Oper.apart_spec (hi.apart oj oi hoj hoi)
 obtain⟨vj,wj,rfl,rfl,nj,qj,locj⟩:=LP hsj
 obtain⟨vi,wi,rfl,rfl,ni,qi,loci⟩:=LP hsi
 have hfoot:=hi.foot
 simp only[Bool.or_eq_true,Bool.and_eq_true]at hfoot
 have d1:∀x∈(F i).tc,∀p∈wj,p.1≠x:=by
  intro x hx p hp he
  rcases hfoot with⟨h1,_⟩|h1
  ·rw[qj h1]at hp;simp at hp
  ·simp only[Vb,List.all_eq_true]at h1
   have:=h1 p.1 (nj p hp)
   rw[he]at this
   simp[hx]at this
 have d2:∀x∈(F j).tc,∀p∈wi,p.1≠x:=by
  intro x hx p hp he
  rcases hfoot with⟨_,h1⟩|h1
  ·rw[qi h1]at hp;simp at hp
  ·simp only[Vb,List.all_eq_true]at h1
   have:=h1 x hx
   have hm:=ni p hp
   rw[he]at hm
   simp[hm]at this
 have hsi':=loci t h (fun s hs=>Pp (fun hd=>a1 s hd hs)) (fun x hx=>eX (d1 x hx))
 have hsj':=locj (eR t oi.dst vi) (bm h wi) (fun s hs=>(Pp (fun hd=>a3 s hd hs)).symm) (fun x hx=>(eX (d2 x hx)).symm)
 refine⟨oi,_,_,hoi,hsi',oj,_,_,hoj,hsj',?_⟩
 rw[Q8 (x:=oi.dst) (y:=oj.dst) (fun d hd hd'=>a2 d hd' hd),Iz (l:=wi) (l':=wj) (fun p hp q hq he=>d1 p.1 (ni p hp) q hq he.symm)]
 exact hrest
theorem front {F:Nat→kI} {i:Nat} {post:List Nat} : ∀ {pre:List Nat} {t t':Nat→D} {h h':Nat→Option Row},Md T Γ N e ops F (pre++i::post) t h t' h'→(∀j∈pre,N8 ops F j i)→Md T Γ N e ops F (i::(pre++post)) t h t' h'
 | [],_,_,_,_,hr,_=>hr
 | j::pre,t,t',h,h',hr,hi=>by
  obtain⟨oj,t1,h1,hoj,hsj,hrest⟩:=hr
  have ih:=front (pre:=pre) hrest (fun k hk=>hi k (by simp[hk]))
  exact swap ⟨oj,t1,h1,hoj,hsj,ih⟩ (hi j (by simp))
def direct (o:Oper):List Nat:=(o.after.toList.filter (Region.binds .any)).map (·.on)
def xm:List Oper→List (List Nat)→List (List Nat)
 | [],acc=>acc
 | o::l,acc=>xm l (acc++[direct o++(direct o).flatMap fun k=>acc.getD k []])
def Sr (ops:Array Oper):List (List Nat):=xm ops.toList []
theorem BP (S:Nat→Prop):∀(l:List Oper) (acc:List (List Nat)) (k:Nat),k=acc.length→(∀i j,j∈acc.getD i []→i<k→(∀m o,ops[m]? = some o→S m→∀d∈direct o,S d)→(∀o,ops[i]? = some o→∀d∈direct o,S d)→S j) →
  (∀j,l[j]? = ops[k+j]?)→∀i j,j∈(xm l acc).getD i []→(∀m o,ops[m]? = some o→S m→∀d∈direct o,S d)→(∀o,ops[i]? = some o→∀d∈direct o,S d)→S j
 | [],acc,k,hk,hacc,hl,i,j,hj,hS,hi=>by
  simp only[xm]at hj
  by_cases hik:i<k
  ·exact hacc i j hj hik hS hi
  ·have:acc.getD i []=[]:=by simp[List.getD,List.getElem?_eq_none (show acc.length≤i by omega)]
   rw[this]at hj
   simp at hj
 | o::l,acc,k,hk,hacc,hl,i,j,hj,hS,hi=>by
  simp only[xm]at hj
  refine BP S l _ (k+1) (by simp[hk]) ?_ (fun j=>by have:=hl (j+1);simpa [Nat.add_assoc,Nat.add_comm 1 j] using this) i j hj hS hi
  intro i' j' hj' hik' hS' hi'
  by_cases hlt:i'<k
  ·have:(acc++[direct o++(direct o).flatMap fun k=>acc.getD k []]).getD i' []=acc.getD i' []:=by
    simp[List.getD,List.getElem?_append_left (show i'<acc.length by omega)]
   rw[this]at hj'
   exact hacc i' j' hj' hlt hS' hi'
  ·obtain rfl:i'=k:=by omega
   have:(acc++[direct o++(direct o).flatMap fun k=>acc.getD k []]).getD i' []=direct o++(direct o).flatMap fun k=>acc.getD k []:=by
    simp[List.getD,List.getElem?_append_right (show acc.length≤i' by omega),hk]
   rw[this]at hj'
   have ho:ops[i']? = some o:=by have:=hl 0;simpa using this.symm
   rcases List.mem_append.1 hj' with hd|hd
   ·exact hi' o ho j' hd
   ·obtain⟨m,hm,hmj⟩:=List.mem_flatMap.1 hd
    have hSm:=hi' o ho m hm
    by_cases hmk:m<i'
    ·exact hacc m j' hmj hmk hS' (fun o' ho' d hd'=>hS' m o' ho' hSm d hd')
    ·have:acc.getD m []=[]:=by simp[List.getD,List.getElem?_eq_none (show acc.length≤m by omega)]
     rw[this]at hmj
     simp at hmj
theorem Va {S:Nat→Prop} {i j:Nat} (hj:j∈(Sr ops).getD i []) (hS:∀m o,ops[m]? = some o→S m→∀d∈direct o,S d) (hi:∀o,ops[i]? = some o→∀d∈direct o,S d):S j :=
 BP S ops.toList [] 0 rfl (fun i j hj _ _ _=>by simp at hj) (fun j=>by simp) i j hj hS hi
def Oa (ops:Array Oper) (F:Nat→kI):Prop:=∀j i,j<i→i<ops.size→j∈(Sr ops).getD i []∨N8 ops F j i
theorem Rt (hT:lC P T) (hΓ:bN P Γ) {F:Nat→kI} {Q:Exit→Act→World→Prop} {t':Nat→D} {h':Nat→Option Row} (hp:Oa ops F) (hedge:∀i o,ops[i]? = some o→∀d∈direct o,d<i)
  (hdst:∀(i j:Nat) (oi oj:Oper) (d:Nat),ops[i]? = some oi→ops[j]? = some oj→oi.dst=some d→oj.dst=some d→i=j) (hQ:∀a' w' blk' done,Inv N M L w0 blk' (Vd N e done) t' h' a' w'→Q .normal a' w') :
  ∀(n:Nat) (LL:List Nat) (listed:Array Bool) (t:Nat→D) (h:Nat→Option Row) (a:Act) (w:World) (blk:Nat→Option (Nat×Nat)) (done:List Nat),LL.length=n→(∀i,i∈LL↔listed.getD i true=false)→LL.Pairwise (· < ·)→(∀i∈LL,i<ops.size)→listed.size=ops.size →
   (∀i o,ops[i]? = some o→listed.getD i false=true→∀d∈direct o,listed.getD d false=true)→(∀d∈done,∃i o,ops[i]? = some o∧o.dst=some d∧listed.getD i false=true) →
   Md T Γ N e ops F LL t h t' h'→Inv N M L w0 blk (Vd N e done) t h a w→wpAny P .any ops Q n listed a w:=by
 intro n
 induction n with
 | zero =>
  intro LL listed t h a w blk done hn hL hs hlt hsz hdown hdone hr hI
  have:LL=[]:=List.eq_nil_of_length_eq_zero hn
  subst this
  obtain⟨rfl,rfl⟩:=hr
  refine⟨?_,hQ a w blk done hI⟩
  refine List.eq_nil_iff_forall_not_mem.2 fun i hi =>?_
  have:=(mem_ready.1 hi).1
  exact absurd ((hL i).2 this) (by simp)
 | succ n ih =>
  intro LL listed t h a w blk done hn hL hs hlt hsz hdown hdone hr hI
  refine⟨fun hempty =>?_,fun i hi =>?_⟩
  ·cases LL with
   | nil=>simp at hn
   | cons i LL =>
    obtain⟨o,t1,h1,ho,_⟩:=hr
    have hready:i∈Region.ready .any ops listed:=by
     refine mem_ready.2 ⟨(hL i).1 (by simp),o,ho,fun ed hed hb =>?_⟩
     have hd:ed.on∈direct o:=List.mem_map.2 ⟨ed,List.mem_filter.2 ⟨by simpa using hed,hb⟩,rfl⟩
     have hlt':=hedge i o ho _ hd
     by_cases hm:ed.on∈i::LL
     ·rcases List.mem_cons.1 hm with hm|hm
      ·omega
      ·have:=(List.pairwise_cons.1 hs).1 _ hm
       omega
     ·have h1:¬listed.getD ed.on true=false:=fun hf=>hm ((hL _).2 hf)
      have h2:ed.on<listed.size:=by rw[hsz];have:=hlt i (by simp);omega
      have:listed.getD ed.on true=listed.getD ed.on false:=by simp[Array.getD,h2]
      rw[← this]
      simpa using h1
    rw[hempty]at hready
    simp at hready
  ·obtain⟨hi0,o,ho,hneeds⟩:=mem_ready.1 hi
   have hiL:i∈LL:=(hL i).2 hi0
   obtain⟨pre,post,rfl⟩:=List.append_of_mem hiL
   have hisz:i<listed.size:=by rw[hsz];exact hlt i hiL
   have hdirect:∀d∈direct o,listed.getD d false=true:=by
    intro d hd
    obtain⟨ed,hed,rfl⟩:=List.mem_map.1 hd
    obtain⟨h1,h2⟩:=List.mem_filter.1 hed
    exact hneeds ed (by simpa using h1) h2
   have hind:∀j∈pre,N8 ops F j i:=by
    intro j hj
    have hji:j<i:=by
     have:=List.pairwise_append.1 hs
     exact this.2.2 j hj i (by simp)
    rcases hp j i hji (hlt i hiL) with hc|hc
    ·have hjl:listed.getD j false=true:=Va (S:=fun m=>listed.getD m false=true) hc (fun m om hm hSm d hd=>hdown m om hm hSm d hd) (fun o' ho' d hd=>by
      rw[ho]at ho'
      cases ho'
      exact hdirect d hd)
     have hjt:=(hL j).1 (by simp[hj])
     have hjs:j<listed.size:=by omega
     have:listed.getD j true=listed.getD j false:=by simp[Array.getD,hjs]
     rw[this,hjl]at hjt
     cases hjt
    ·exact hc
   obtain⟨o',t1,h1,ho',hstep,hrest⟩:=front hr hind
   rw[ho]at ho'
   cases ho'
   unfold wpOp
   simp only[ho]
   refine Pz hT hΓ hI hstep (fun d hd hdd =>?_) (fun a' w' blk' hI' =>?_)
   ·obtain⟨k,ok,hk,hkd,hkl⟩:=hdone d hdd
    have:=hdst i k o ok d ho hk hd hkd
    subst this
    have:listed.getD i true=listed.getD i false:=by simp[Array.getD,hisz]
    rw[this,hkl]at hi0
    cases hi0
   ·have hset:∀k,(listed.setIfInBounds i true).getD k false=true↔k=i∨listed.getD k false=true:=by
     intro k
     by_cases hki:k=i
     ·subst hki;simp[hisz]
     ·rw[getD_set_ne false (Ne.symm hki)];simp[hki]
    have hset2:∀k,(listed.setIfInBounds i true).getD k true=false↔k≠i∧listed.getD k true=false:=by
     intro k
     by_cases hki:k=i
     ·subst hki;simp[hisz]
     ·rw[getD_set_ne true (Ne.symm hki)];simp[hki]
    have hnd:(pre++i::post).Nodup:=hs.imp (fun h=>Nat.ne_of_lt h)
    refine ih (pre++post) (listed.setIfInBounds i true) t1 h1 a' w' blk' _ (by simp at hn ⊢;omega) (fun k =>?_) ?_ (fun k hk=>hlt k (by simp at hk ⊢;rcases hk with hk|hk<;>simp[hk])) (by simpa using hsz) (fun k ok hk hkl d hd =>?_) (fun d hd =>?_) hrest hI'
    ·rw[hset2]
     constructor
     ·intro hk
      have hkL:k∈pre++i::post:=by simp at hk ⊢;rcases hk with hk|hk<;>simp[hk]
      refine⟨fun e =>?_,(hL k).1 hkL⟩
      subst e
      have:=List.nodup_append.1 hnd
      simp only[List.nodup_cons]at this
      rcases List.mem_append.1 hk with hk|hk
      ·exact this.2.2 k hk k (by simp) rfl
      ·exact this.2.1.1 hk
     ·rintro⟨hk,hkl⟩
      have:=(hL k).2 hkl
      simp only[List.mem_append,List.mem_cons]at this ⊢
      rcases this with h|h|h
      ·exact .inl h
      ·exact absurd h hk
      ·exact .inr h
    ·refine List.Pairwise.sublist ?_ hs
     exact List.Sublist.append_left (List.sublist_cons_self _ _) _
    ·rw[hset]
     rcases (hset k).1 hkl with rfl|hkl
     ·rw[ho]at hk;cases hk;exact .inr (hdirect d hd)
     ·exact .inr (hdown k ok hk hkl d hd)
    ·rcases List.mem_append.1 hd with hd|hd
     ·exact⟨i,o,ho,by simpa using hd,(hset i).2 (.inl rfl)⟩
     ·obtain⟨k,ok,hk,hkd,hkl⟩:=hdone d hd
      exact⟨k,ok,hk,hkd,(hset k).2 (.inr hkl)⟩
end
def AV (T:Nat→Option Ty) (Γ:Env) (N e:Nat) (ops:Array Oper):List Oper→(Nat→D)→(Nat→Option Row)→Option ((Nat→D)×(Nat→Option Row)×List kI)
 | [],t,h=>some (t,h,[])
 | o::l,t,h =>
  match step1 T Γ N e ops o t h with
  | some (t1,h1,f) =>
   match AV T Γ N e ops l t1 h1 with
   | some (t2,h2,fs)=>some (t2,h2,f::fs)
   | none=>none
  | none=>none
def HN:List Nat→Bool
 | []=>true
 | x::l => !l.contains x&&HN l
def SH (ops:Array Oper):Bool:=HN (ops.toList.filterMap (·.dst))
def Oj (ops:Array Oper) (j i:Nat):Bool :=
 match ops[j]?,ops[i]? with
 | some oj,some oi=>oj.apart ops oi
 | _,_=>true
def Mt (ops:Array Oper):Bool :=
 (ops.toList.zipIdx.all fun p=>(direct p.1).all fun d=>decide (d<p.2)) &&
 ((List.range ops.size).all fun i=>(List.range i).all fun j=>((Sr ops).getD i []).contains j||Oj ops j i)
def Gf (ops:Array Oper):List (Nat×Nat):=(List.range ops.size).flatMap fun i=>((List.range i).filter fun j => !((Sr ops).getD i []).contains j).map fun j=>(j,i)
def TD (fs:List kI) (p:Nat×Nat):Bool :=
 match fs[p.1]?,fs[p.2]? with
 | some f,some g=>f.q&&g.q||Vb f.tc g.tc
 | _,_=>false
def B3 (ops:Array Oper) (fs:List kI):Bool:=(Gf ops).all (TD fs)
inductive Ex where
 | normal
 | exit (n:Nat)
 | ret
structure St where
 t:Nat→D
 h:Nat→Option Row
 e:Nat
def iter (f:St→Option (Ex×St)):Nat→St→Option (Ex×St)
 | 0,_=>none
 | n+1,s =>
  match f s with
  | some (.normal,s1)=>iter f n s1
  | r=>r
def vu (T:Nat→Option Ty) (Γ:Env) (N:Nat) (ops:Array Oper) (draw:Bool) (s:St):Option (Ex×St) :=
 match AV T Γ N s.e ops ops.toList s.t s.h with
 | some (t,h,fs)=>if !draw||B3 ops fs then some (.normal,⟨t,h,s.e+1⟩) else none
 | none=>none
def L3 (d:D) (x y:Option (Ex×St)):Option (Ex×St) :=
 match d with
 | .bool b=>if b then x else y
 | _=>none
def Zh (r:Option (Ex×St)) (k:St→Option (Ex×St)):Option (Ex×St) :=
 match r with
 | some (.normal,s)=>k s
 | r=>r
def N0 (id:Nat) (r:Option (Ex×St)):Option (Ex×St) :=
 match r with
 | some (.exit n,s)=>if n=id then some (.normal,s) else some (.exit n,s)
 | r=>r
def ik (T:Nat→Option Ty) (Γ:Env) (N F:Nat):Code→St→Option (Ex×St)
 | .skip,s=>some (.normal,s)
 | .region _ ops draw,s=>vu T Γ N ops draw s
 | .seq a b,s=>Zh (ik T Γ N F a s) (ik T Γ N F b)
 | .cond c x y,s=>L3 (ev s.t c) (ik T Γ N F x s) (ik T Γ N F y s)
 | .block id b,s=>N0 id (ik T Γ N F b s)
 | .loop b,s=>iter (ik T Γ N F b) F s
 | .exit id,s=>some (.exit id,s)
 | .ret,s=>some (.ret,s)
 | _,_=>none
def codeOk:Code→Bool
 | .region _ ops draw=>SH ops&&(!draw||Mt ops)
 | .seq a b=>codeOk a&&codeOk b
 | .cond _ x y=>codeOk x&&codeOk y
 | .block _ b=>codeOk b
 | .loop b=>codeOk b
 | _=>true
section
variable {P:Program} {T:Nat→Option Ty} {N:Nat} {M:Nat→Prop} {L:sS} {w0:World} {blk:Nat→Option (Nat×Nat)} {t:Nat→D} {h:Nat→Option Row} {a:Act} {w:World} {e:Nat} {o:Oper} {Γ:Env} {ops:Array Oper}
theorem Gc:∀ {l:List Nat},HN l=true→l.Nodup
 | [],_=>List.nodup_nil
 | x::l,h=>by
  simp only[HN,Bool.and_eq_true,Bool.not_eq_true',List.contains_eq_mem,decide_eq_false_iff_not]at h
  exact List.nodup_cons.2 ⟨h.1,Gc h.2⟩
theorem D0:∀ {l:List Oper} {done:List Nat},(l.filterMap (·.dst)).Nodup→(∀o∈l,∀d,o.dst=some d→d∉done)→∀o l',l=o::l'→(l'.filterMap (·.dst)).Nodup∧∀o'∈l',∀d,o'.dst=some d→d∉o.dst.toList++done:=by
 intro l done hn hd o l' he
 subst he
 cases ho:o.dst with
 | none =>
  rw[List.filterMap_cons_none ho]at hn
  exact⟨hn,fun o' ho' d hd'=>by simpa using hd o' (by simp[ho']) d hd'⟩
 | some x =>
  rw[List.filterMap_cons_some ho]at hn
  obtain⟨h1,h2⟩:=List.nodup_cons.1 hn
  refine⟨h2,fun o' ho' d hd' hm =>?_⟩
  simp only[Option.toList_some,List.singleton_append,List.mem_cons]at hm
  rcases hm with rfl|hm
  ·exact h1 (List.mem_filterMap.2 ⟨o',ho',hd'⟩)
  ·exact hd o' (by simp[ho']) d hd' hm
theorem DQ (hT:lC P T) (hΓ:bN P Γ) {Q:Exit→Act→World→Prop} : ∀ {l:List Oper} {t t':Nat→D} {h h':Nat→Option Row} {fs:List kI} {a:Act} {w:World} {blk:Nat→Option (Nat×Nat)} {done:List Nat},
  AV T Γ N e ops l t h=some (t',h',fs)→(l.filterMap (·.dst)).Nodup→(∀o∈l,∀d,o.dst=some d→d∉done)→Inv N M L w0 blk (Vd N e done) t h a w →
  (∀a' w' blk' done,Inv N M L w0 blk' (Vd N e done) t' h' a' w'→Q .normal a' w')→wpList P ops Q l a w
 | [],t,t',h,h',fs,a,w,blk,done,hr,_,_,hI,hQ=>by
  simp only[AV,Option.some.injEq,Prod.mk.injEq]at hr
  obtain⟨rfl,rfl,_⟩:=hr
  exact hQ a w blk done hI
 | o::l,t,t',h,h',fs,a,w,blk,done,hr,hn,hd,hI,hQ=>by
  simp only[AV]at hr
  split at hr
  ·rename_i t1 h1 f hs
   split at hr
   ·rename_i t2 h2 fs2 hr2
    simp only[Option.some.injEq,Prod.mk.injEq]at hr
    obtain⟨rfl,rfl,_⟩:=hr
    obtain⟨hn',hd'⟩:=D0 hn hd o l rfl
    have:=Pz (K:=wpList P ops Q l) (Q:=Q) hT hΓ hI hs (hd o (by simp)) (fun a' w' blk' hI'=>DQ hT hΓ hr2 hn' hd' hI' hQ)
    unfold wpList
    exact this
   ·cases hr
  ·cases hr
theorem yf {F:Nat→kI} : ∀ {l:List Oper} {k:Nat} {t t':Nat→D} {h h':Nat→Option Row} {fs:List kI},AV T Γ N e ops l t h=some (t',h',fs)→(∀j,l[j]? = ops[k+j]?)→(∀j f,fs[j]? = some f→F (k+j)=f) →
  fs.length=l.length∧Md T Γ N e ops F (List.range' k l.length) t h t' h'
 | [],k,t,t',h,h',fs,hr,_,_=>by
  simp only[AV,Option.some.injEq,Prod.mk.injEq]at hr
  obtain⟨rfl,rfl,rfl⟩:=hr
  exact⟨rfl,rfl,rfl⟩
 | o::l,k,t,t',h,h',fs,hr,hl,hF=>by
  simp only[AV]at hr
  split at hr
  ·rename_i t1 h1 f hs
   split at hr
   ·rename_i t2 h2 fs2 hr2
    simp only[Option.some.injEq,Prod.mk.injEq]at hr
    obtain⟨rfl,rfl,rfl⟩:=hr
    obtain⟨i1,i2⟩:=yf (k:=k+1) hr2 (fun j=>by have:=hl (j+1);simpa [Nat.add_assoc,Nat.add_comm 1 j] using this) (fun j f' hj=>by have:=hF (j+1) f' (by simpa using hj);rwa [show k+(j+1)=k+1+j by omega]at this)
    refine⟨by simp[i1],o,t1,h1,by have:=hl 0;simpa using this.symm,?_,i2⟩
    have:=hF 0 f rfl
    rw[Nat.add_zero]at this
    rw[this]
    exact hs
   ·cases hr
  ·cases hr
def Holds (N:Nat) (M:Nat→Prop) (L:sS) (w0:World) (s:St) (a:Act) (w:World):Prop:=∃blk,Inv N M L w0 blk (fun x v=>x<N∧v<s.e) s.t s.h a w
theorem EJ (hT:lC P T) (hΓ:bN P Γ) (hm:P.follows .mixedOrders=true) {id:Nat} {draw:Bool} {s:St} {x:Ex} {s':St} {Q:Exit→Act→World→Prop} (hr:vu T Γ N ops draw s=some (x,s')) (hok:(SH ops&&(!draw||Mt ops))=true)
  (hH:Holds N M L w0 s a w) (hQ:∀a' w',Holds N M L w0 s' a' w'→Q .normal a' w'):x=.normal∧(Code.region id ops draw).wp P Q a w:=by
 unfold vu at hr
 split at hr
 ·rename_i t h fs hrun
  split at hr
  ·rename_i hdyn
   simp only[Option.some.injEq,Prod.mk.injEq]at hr
   obtain⟨rfl,rfl⟩:=hr
   refine⟨rfl,?_⟩
   simp only[Bool.and_eq_true]at hok
   have hnd:(ops.toList.filterMap (·.dst)).Nodup:=Gc hok.1
   obtain⟨blk,hI⟩:=hH
   have hfin:∀a' w' blk' done,Inv N M L w0 blk' (Vd N s.e done) t h a' w'→Q .normal a' w':=by
    intro a' w' blk' done hI'
    refine hQ a' w' ⟨blk',hI'.weaken fun x v hx =>?_⟩
    rcases hx with⟨hn,hx|⟨hx,_⟩⟩
    ·exact⟨hn,by simp only;omega⟩
    ·exact⟨hn,by simp only;omega⟩
   cases draw with
   | false =>
    refine wp_region_list ?_
    exact DQ hT hΓ hrun hnd (done:=[]) (fun o _ d _=>by simp) (hI.weaken fun x v hx=>⟨hx.1,.inl hx.2⟩) hfin
   | true =>
    simp only[Bool.not_true,Bool.false_or]at hdyn hok
    refine wp_region_any hm ?_
    have hdr:=hok.2
    simp only[Mt,Bool.and_eq_true]at hdr
    let F:Nat→kI:=fun i=>fs.getD i ⟨[],true⟩
    obtain⟨hlen,hRun⟩:=yf (F:=F) (k:=0) hrun (fun j=>by simp) (fun j f hj=>by simp[F,List.getD,hj])
    have hedge:∀i o,ops[i]? = some o→∀d∈direct o,d<i:=by
     intro i o ho d hd
     have h1:=hdr.1
     rw[List.all_eq_true]at h1
     have hmem:(o,i)∈ops.toList.zipIdx:=by
      rw[List.mem_zipIdx_iff_getElem?]
      simpa using ho
     have:=h1 _ hmem
     rw[List.all_eq_true]at this
     simpa using this d hd
    have hdst:∀(i j:Nat) (oi oj:Oper) (d:Nat),ops[i]? = some oi→ops[j]? = some oj→oi.dst=some d→oj.dst=some d→i=j:=by
     have key:∀(l:List Oper),(l.filterMap (·.dst)).Nodup→∀(i j:Nat) (oi oj:Oper) (d:Nat),l[i]? = some oi→l[j]? = some oj→oi.dst=some d→oj.dst=some d→i=j:=by
      intro l
      induction l with
      | nil=>intro _ i j oi oj d hi;simp at hi
      | cons o l ih =>
       intro hn i j oi oj d hi hj hdi hdj
       have hn':(l.filterMap (·.dst)).Nodup:=by
        cases ho:o.dst with
        | none=>rw[List.filterMap_cons_none ho]at hn;exact hn
        | some x=>rw[List.filterMap_cons_some ho]at hn;exact (List.nodup_cons.1 hn).2
       have hnot:∀(k:Nat) (ok:Oper),l[k]? = some ok→o.dst=some d→ok.dst=some d→False:=by
        intro k ok hk ho hkd
        rw[List.filterMap_cons_some ho]at hn
        exact (List.nodup_cons.1 hn).1 (List.mem_filterMap.2 ⟨ok,List.mem_of_getElem? hk,hkd⟩)
       cases i with
       | zero =>
        simp only[List.getElem?_cons_zero,Option.some.injEq]at hi
        subst hi
        cases j with
        | zero=>rfl
        | succ j=>exact (hnot j oj (by simpa using hj) hdi hdj).elim
       | succ i =>
        cases j with
        | zero =>
         simp only[List.getElem?_cons_zero,Option.some.injEq]at hj
         subst hj
         exact (hnot i oi (by simpa using hi) hdj hdi).elim
        | succ j=>rw[ih hn' i j oi oj d (by simpa using hi) (by simpa using hj) hdi hdj]
     intro i j oi oj d hi hj
     exact key ops.toList hnd i j oi oj d (by simpa using hi) (by simpa using hj)
    have hpairs:Oa ops F:=by
     intro j i hji hi
     by_cases hc:j∈(Sr ops).getD i []
     ·exact .inl hc
     ·refine .inr ⟨fun oj oi hoj hoi =>?_,?_⟩
      ·have h2:=hdr.2
       rw[List.all_eq_true]at h2
       have:=h2 i (List.mem_range.2 hi)
       rw[List.all_eq_true]at this
       have:=this j (List.mem_range.2 hji)
       simp only[Bool.or_eq_true,List.contains_eq_mem,decide_eq_true_eq]at this
       rcases this with h'|h'
       ·exact absurd h' hc
       ·simpa [Oj,hoj,hoi] using h'
      ·rw[B3,List.all_eq_true]at hdyn
       have hmem:(j,i)∈Gf ops:=by
        refine List.mem_flatMap.2 ⟨i,List.mem_range.2 hi,List.mem_map.2 ⟨j,List.mem_filter.2 ⟨List.mem_range.2 hji,?_⟩,rfl⟩⟩
        simpa using hc
       have:=hdyn _ hmem
       have hi':i<fs.length:=by rw[hlen];simpa using hi
       have hj':j<fs.length:=by omega
       simp only[TD,List.getElem?_eq_getElem hj',List.getElem?_eq_getElem hi']at this
       simp only[F,List.getD_eq_getElem?_getD,List.getElem?_eq_getElem hj',List.getElem?_eq_getElem hi',Option.getD_some]
       exact this
    rw[Array.length_toList,← List.range_eq_range']at hRun
    have hrep:∀i,(Array.replicate ops.size false).getD i false=false:=by
     intro i
     by_cases hi:i<ops.size
     ·simp[Array.getD,hi]
     ·simp[Array.getD,hi]
    have hrept:∀i,(Array.replicate ops.size false).getD i true=false↔i<ops.size:=by
     intro i
     by_cases hi:i<ops.size
     ·simp[Array.getD,hi]
     ·simp[Array.getD,hi]
    exact Rt hT hΓ hpairs hedge hdst hfin ops.size (List.range ops.size) (Array.replicate ops.size false) s.t s.h a _ blk [] (by simp) (fun i=>by rw[hrept];exact List.mem_range) List.pairwise_lt_range (fun i hi=>List.mem_range.1 hi) (by simp)
     (fun i o _ hl=>by rw[hrep]at hl;cases hl) (fun d hd=>by simp at hd) hRun ((hI.weaken fun x v hx=>⟨hx.1,.inl hx.2⟩).drew)
  ·cases hr
 ·cases hr
def Mv:Ex→Exit
 | .normal =>.normal
 | .exit n =>.exit n
 | .ret =>.ret
theorem AB (hT:lC P T) (hΓ:bN P Γ) (hm:P.follows .mixedOrders=true) {F:Nat} : ∀(c:Code) (s:St) (x:Ex) (s':St) (Q:Exit→Act→World→Prop) (a:Act) (w:World),ik T Γ N F c s=some (x,s')→codeOk c=true→Holds N M L w0 s a w →
  (∀a' w',Holds N M L w0 s' a' w'→Q (Mv x) a' w')→c.wp P Q a w:=by
 intro c
 induction c with
 | skip =>
  intro s x s' Q a w hr _ hH hQ
  simp only[ik,Option.some.injEq,Prod.mk.injEq]at hr
  obtain⟨rfl,rfl⟩:=hr
  exact wp_skip (hQ a w hH)
 | region id ops draw =>
  intro s x s' Q a w hr hok hH hQ
  simp only[ik]at hr
  have hx:x=.normal:=by
   unfold vu at hr
   split at hr
   ·split at hr
    ·simp only[Option.some.injEq,Prod.mk.injEq]at hr;exact hr.1.symm
    ·cases hr
   ·cases hr
  subst hx
  exact (EJ hT hΓ hm hr hok hH hQ).2
 | seq b c ihb ihc =>
  intro s x s' Q a w hr hok hH hQ
  simp only[codeOk,Bool.and_eq_true]at hok
  simp only[ik,Zh]at hr
  refine wp_seq ?_
  split at hr
  ·rename_i s1 h1
   exact ihb s .normal s1 _ a w h1 hok.1 hH (fun a' w' hH'=>ihc s1 x s' Q a' w' hr hok.2 hH' hQ)
  ·rename_i r hne
   refine ihb s x s' _ a w hr hok.1 hH (fun a' w' hH' =>?_)
   cases x with
   | normal=>exact absurd hr (fun h=>hne s' h)
   | exit n=>exact hQ a' w' hH'
   | ret=>exact hQ a' w' hH'
 | cond c b d ihb ihd =>
  intro s x s' Q a w hr hok hH hQ
  simp only[codeOk,Bool.and_eq_true]at hok
  simp only[ik]at hr
  unfold L3 at hr
  split at hr
  ·rename_i bb hb
   obtain⟨blk,hI⟩:=hH
   have hv:=hI.ev c
   rw[hb]at hv
   refine wp_cond (t:=bb) (uD hv) ?_
   cases bb with
   | true=>exact ihb s x s' Q a w hr hok.1 ⟨blk,hI⟩ hQ
   | false=>exact ihd s x s' Q a w hr hok.2 ⟨blk,hI⟩ hQ
  ·cases hr
 | block id b ih =>
  intro s x s' Q a w hr hok hH hQ
  simp only[ik]at hr
  refine wp_block ?_
  unfold N0 at hr
  split at hr
  ·rename_i n s1 h1
   refine ih s (.exit n) s1 _ a w h1 hok hH (fun a' w' hH' =>?_)
   split at hr
   ·rename_i hn
    simp only[Option.some.injEq,Prod.mk.injEq]at hr
    obtain⟨rfl,rfl⟩:=hr
    simp only[Mv,Exit.inBlock,hn,if_true]
    exact hQ a' w' hH'
   ·rename_i hn
    simp only[Option.some.injEq,Prod.mk.injEq]at hr
    obtain⟨rfl,rfl⟩:=hr
    simp only[Mv,Exit.inBlock,hn,if_false]
    exact hQ a' w' hH'
  ·rename_i r hne
   refine ih s x s' _ a w hr hok hH (fun a' w' hH' =>?_)
   cases x with
   | normal=>exact hQ a' w' hH'
   | exit n=>exact absurd hr (fun h=>hne n s' h)
   | ret=>exact hQ a' w' hH'
 | loop b ih =>
  intro s x s' Q a w hr hok hH hQ
  simp only[ik]at hr
  refine wp_loop_ghost (fun n a w=>∃s,Holds N M L w0 s a w∧iter (ik T Γ N F b) n s=some (x,s')) F ⟨s,hH,hr⟩ ?_
  intro n a w ⟨s1,hH1,h1⟩
  cases n with
  | zero=>simp[iter]at h1
  | succ n =>
   simp only[iter]at h1
   split at h1
   ·rename_i s2 h2
    exact ih s1 .normal s2 _ a w h2 hok hH1 (fun a' w' hH'=>⟨n,by omega,s2,hH',h1⟩)
   ·rename_i r hne
    refine ih s1 x s' _ a w h1 hok hH1 (fun a' w' hH' =>?_)
    cases x with
    | normal=>exact absurd h1 (fun h=>hne s' h)
    | exit n=>exact hQ a' w' hH'
    | ret=>exact hQ a' w' hH'
 | exit id =>
  intro s x s' Q a w hr _ hH hQ
  simp only[ik,Option.some.injEq,Prod.mk.injEq]at hr
  obtain⟨rfl,rfl⟩:=hr
  exact wp_exit (hQ a w hH)
 | ret =>
  intro s x s' Q a w hr _ hH hQ
  simp only[ik,Option.some.injEq,Prod.mk.injEq]at hr
  obtain⟨rfl,rfl⟩:=hr
  exact wp_ret (hQ a w hH)
 | _=>intro s x s' Q a w hr;simp[ik]at hr
end
def Lk (T:Nat→Option Ty) (s:St):ResultVar→Option (D×List Nat)
 | .tmp i=>bY s.h (s.t i)
 | .cell i ty =>
  match T ty,s.t i with
  | some τ,.ptr x v o=>match dB τ s.h (.ptr x v o) with|some E=>some (fw E.val,[])|none=>none
  | _,_=>none
def w8 (T:Nat→Option Ty) (s:St):List ResultVar→Option (List D×List Nat)
 | []=>some ([],[])
 | r::rs =>
  match Lk T s r with
  | some (d,fr)=>match w8 T s rs with
   | some (ds,fr')=>some (d::ds,fr++fr')
   | none=>none
  | none=>none
def pZ:List D→D
 | [d]=>d
 | ds =>.tup ds
inductive Mode where
 | clean|same|tight
 | fresh (ty s:Nat)
def eP:Option (D×Row)→List D→St
 | none,args=>⟨fun i=>args.getD i .und,fun _=>none,0⟩
 | some (d0,r),args=>⟨fun i=>(d0::args).getD i .und,fun x=>if x=0 then some { r with v:=0 } else none,1⟩
def kV:Option (D×Row)→St→Option (Option Row)
 | none,_=>some none
 | some (_,r),s =>
  match s.h 0 with
  | some r1=>if r1.v=0∧r1.fz=false∧r1.ty=r.ty∧r1.mp=false then some (some r1) else none
  | none=>none
def Vy:Option (D×Row)→List Nat→Bool
 | none,_=>true
 | some _,fr => !fr.contains 0
def tI (T:Nat→Option Ty) (lent:Option (D×Row)) (rs:List ResultVar) (s:St):Option (RK×Option Row) :=
 match w8 T s rs,kV lent s with
 | some (ds,fr),some o=>if Vy lent fr then some (.clean (pZ ds),o) else none
 | _,_=>none
def A5 (lent:Option (D×Row)) (rs:List ResultVar) (s:St):Option (RK×Option Row) :=
 match rs with
 | [.tmp i] =>
  match s.t i,kV lent s with
  | .buf 0 0 sz o n,some (some r)=>some (.same sz o n,some r)
  | _,_=>none
 | _=>none
def uK:D→Option (RK×Option Row)
 | .sl nl tg n xs=>some (.clean (.sl nl tg n xs),none)
 | _=>none
def Cg (lent:Option (D×Row)) (rs:List ResultVar) (s:St):Option (RK×Option Row) :=
 match lent,rs with
 | none,[.tmp i]=>uK (s.t i)
 | _,_=>none
def uJ (ty s o n:Nat):Option Row→Option (RK×Option Row)
 | some r=>if r.fz=false∧r.ty=ty∧o+n*s≤r.cells.length then some (.fresh ty s n ((r.cells.drop o).take (n*s)),none) else none
 | none=>none
def lK (ty s:Nat) (h:Nat→Option Row):D→Option (RK×Option Row)
 | .buf x v sz o n=>if sz=s then uJ ty s o n (live h x v) else none
 | .sl _ tg 0 _=>if tg=true then some (.fresh ty s 0 [],none) else none
 | _=>none
def qk (ty s:Nat) (rs:List ResultVar) (st:St):Option (RK×Option Row) :=
 match rs with
 | [.tmp i]=>lK ty s st.h (st.t i)
 | _=>none
def gW (mode:Mode) (T:Nat→Option Ty) (lent:Option (D×Row)) (rs:List ResultVar) (s:St):Option (RK×Option Row) :=
 match mode with
 | .clean=>tI T lent rs s
 | .same=>A5 lent rs s
 | .tight=>Cg lent rs s
 | .fresh ty sz=>qk ty sz rs s
def aQ (mode:Mode) (T:Nat→Option Ty) (Γ:Env) (F:Nat) (fn:Func) (lent:Option (D×Row)) (args:List D):Option (RK×Option Row) :=
 match fn.body with
 | some c =>
  if fn.ntmps≤PK then
   match ik T Γ fn.ntmps F c (eP lent args) with
   | some (.exit _,_)=>none
   | some (_,s)=>gW mode T lent fn.results.toList s
   | none=>none
  else none
 | none=>none
def HQ:Option (D×Row)→Bool
 | none=>true
 | some (.buf 0 0 _ _ _,_)=>true
 | some (.ptr 0 0 _,_)=>true
 | _=>false
def F6:Option (D×Row)→List D→Nat
 | none,aai=>aai.length
 | some _,aai=>aai.length+1
section
variable {P:Program} {T:Nat→Option Ty} {N:Nat} {M:Nat→Prop} {L:sS} {w0:World} {blk:Nat→Option (Nat×Nat)} {a:Act} {w:World} {Γ:Env}
theorem Inv.Yc {V:Nat→Nat→Prop} {t:Nat→D} {h:Nat→Option Row} (hI:Inv N M L w0 blk V t h a w) (fr:List Nat):ot M h blk fr M where
 le b hb := .inl hb
 no x hx r g hr hg hb:=hI.notM hr hg hb
def zh (tm:Array Value):ResultVar→Sem Value
 | .tmp t=>pure (tm.getD t undef)
 | .cell b t=>do loadVar t (← asAddr (tm.getD b undef))
theorem Dp (fn:Func) (tm:Array Value):results fn tm=(do
  let vs ← fn.results.mapM (zh tm)
  pure (if h:vs.size=1 then vs[0] else .tuple vs)):=by
 unfold results
 congr 1
theorem Rb (hT:lC P T) {M':Nat→Prop} {ty:Nat} {τ:Ty} {g c:Nat} {xs:List D} {d:D} (hτ:T ty=some τ) (hat:At w M' g c xs) (hl:xs.length=τ.size) (hd:mB τ xs=some d) :
  ∃u,(loadVar ty ⟨g,c,none⟩).run P w=.ok u w∧RP w M' d u:=by
 obtain⟨us,h1,h2,h3,h4⟩:=hat.Y4
 have hone:τ.ds.oY=false→xs.length=1∧xs=[d]:=by
  intro hf
  simp only[mB,hf,Bool.false_eq_true,if_false]at hd
  split at hd
  ·simp only[Option.some.injEq]at hd;subst hd;exact⟨rfl,rfl⟩
  ·cases hd
 have hrun:=lu (hT ty τ hτ) w g c us (by rw[h1,hl]) h2 (fun hf=>by rw[h1];exact (hone hf).1)
 refine⟨_,hrun,?_⟩
 cases ha:τ.ds.oY with
 | true =>
  simp only[mB,ha,if_true,Option.some.injEq]at hd
  subst hd
  exact .agg xs us h1 h3 h4
 | false =>
  obtain⟨_,rfl⟩:=hone ha
  exact h3 0 d rfl
theorem TM (hT:lC P T) {M':Nat→Prop} {V:Nat→Nat→Prop} {s:St} (hI:Inv N M L w0 blk V s.t s.h a w) {r:ResultVar} {d:D} {fr:List Nat} (h1:Lk T s r=some (d,fr)) (hl:ot M s.h blk fr M'):∃u,(zh a.tmps r).run P w=.ok u w∧RP w M' d u:=by
 cases r with
 | tmp i =>
  simp only[Lk]at h1
  exact⟨a.tmps.getD i undef,rfl,hI.bY h1 hl (hI.slots i)⟩
 | cell i ty =>
  simp only[Lk]at h1
  split at h1
  ·rename_i τ x v o hτ hp
   split at h1
   ·rename_i E hE
    simp only[Option.some.injEq,Prod.mk.injEq]at h1
    obtain⟨rfl,_⟩:=h1
    have hsl:=hI.slots i
    rw[hp]at hsl
    simp only[dB]at hE
    split at hE
    ·rename_i rr hlv
     obtain⟨hx,hv⟩:=bT hlv
     split at hE
     ·rename_i hle
      split at hE
      ·rename_i d' hd'
       simp only[Option.some.injEq]at hE
       subst hE
       obtain⟨g,hg,hpv⟩:=hsl.2 rr hx hv
       have hat:=((hI.rowAt hx hg (gO hlv)).drop o).take τ.size
       obtain⟨u,hu1,hu2⟩:=Rb hT hτ hat (by simp;omega) hd'
       refine⟨u,?_,(hu2.less fun b hb=>hl.le b hb).fw⟩
       simp only[zh,hpv,asAddr,Sem.run_bind,Sem.run_pure,Result.andThen_ok,hu1]
      ·cases hE
     ·cases hE
    ·cases hE
   ·cases h1
  ·cases h1
theorem Ly (hT:lC P T) {M':Nat→Prop} {V:Nat→Nat→Prop} {s:St} (hI:Inv N M L w0 blk V s.t s.h a w):∀(rs:List ResultVar) (ds:List D) (fr:List Nat),w8 T s rs=some (ds,fr)→ot M s.h blk fr M' →
  ∃us:List Value,(rs.mapM (zh a.tmps)).run P w=.ok us w∧us.length=ds.length∧∀j d,ds[j]? = some d→RP w M' d (us.getD j undef)
 | [],ds,fr,h,_=>by
  simp only[w8,Option.some.injEq,Prod.mk.injEq]at h
  obtain⟨rfl,_⟩:=h
  exact⟨[],by simp,rfl,fun j d hj=>by simp at hj⟩
 | r::rs,ds,fr,h,hl=>by
  simp only[w8]at h
  split at h
  ·rename_i d fr1 h1
   split at h
   ·rename_i ds2 fr2 h2
    simp only[Option.some.injEq,Prod.mk.injEq]at h
    obtain⟨rfl,rfl⟩:=h
    obtain⟨us,i1,i2,i3⟩:=Ly hT hI rs ds2 fr2 h2 hl.right
    obtain⟨u,hu1,hu2⟩:=TM (P:=P) hT hI h1 hl.left
    refine⟨u::us,?_,by simp[i2],fun j d hj =>?_⟩
    ·simp only[List.mapM_cons,Sem.run_bind,hu1,Result.andThen_ok,i1,Sem.run_pure]
    ·cases j with
     | zero=>simp only[List.getElem?_cons_zero,Option.some.injEq]at hj;subst hj;simpa using hu2
     | succ j=>simpa using i3 j d (by simpa using hj)
   ·cases h
  ·cases h
theorem Ao (hT:lC P T) {M':Nat→Prop} {V:Nat→Nat→Prop} {s:St} (hI:Inv N M L w0 blk V s.t s.h a w) {fn:Func} {ds:List D} {fr:List Nat} (h:w8 T s fn.results.toList=some (ds,fr)) (hl:ot M s.h blk fr M') :
  ∃v,(results fn a.tmps).run P w=.ok v w∧RP w M' (pZ ds) v:=by
 obtain⟨us,i1,i2,i3⟩:=Ly (P:=P) hT hI _ ds fr h hl
 have hm:(fn.results.mapM (zh a.tmps)).run P w=.ok us.toArray w:=by
  rw[Array.mapM_eq_mapM_toList,Sem.run_map,i1]
  rfl
 rw[Dp]
 simp only[Sem.run_bind,hm,Result.andThen_ok,Sem.run_pure]
 refine⟨_,rfl,?_⟩
 match us,ds,i2,i3 with
 | [u],[d],_,i3=>simpa [pZ] using i3 0 d rfl
 | [],[],_,_=>exact .tup [] [] rfl (fun j x hj=>by simp at hj)
 | u1::u2::us,d1::d2::ds,i2,i3 =>
  have:¬(u1::u2::us).toArray.size=1:=by simp
  rw[dif_neg this]
  exact .tup _ _ (by simpa using i2) i3
theorem pR {fn:Func} {tm:Array Value} {i:Nat} (h:fn.results.toList=[.tmp i]):(results fn tm).run P w=.ok (tm.getD i undef) w:=by
 have he:fn.results = #[.tmp i]:=by rw[← h]
 rw[Dp,he]
 simp[zh]
theorem Inv.qk {V:Nat→Nat→Prop} {s:St} {ty0 s0:Nat} (hI:Inv N M L w0 blk V s.t s.h a w) {fn:Func} {rk:RK} {out:Option Row} (he:Am.qk ty0 s0 fn.results.toList s=some (rk,out)) :
  out=none∧∃v ty sz n cells,rk=.fresh ty sz n cells∧(results fn a.tmps).run P w=.ok v w∧Bk w0 w M (LB L) v rk:=by
 unfold Am.qk at he
 split at he
 ·rename_i i hrs
  have hsl:=hI.slots i
  unfold lK at he
  split at he
  ·rename_i x v sz o n ht
   rw[ht]at hsl
   split at he
   ·rename_i hsz
    subst hsz
    unfold uJ at he
    split at he
    ·rename_i r hlv
     split at he
     ·rename_i hcond
      obtain⟨hz,hty,hle⟩:=hcond
      simp only[Option.some.injEq,Prod.mk.injEq]at he
      obtain⟨rfl,rfl⟩:=he
      refine⟨rfl,a.tmps.getD i undef,_,_,_,_,rfl,pR hrs,?_⟩
      obtain⟨hx,hv⟩:=bT hlv
      have hol:((r.cells.drop o).take (n*sz)).length=n*sz:=by simp;omega
      rcases hI.xk hlv hsl with⟨g,o',c,cs,g0,g1,g2,g3,g4,g5,g7,g8⟩|⟨g0,rfl,g2,A,g3⟩
      ·by_cases hc:0<c∨o=0
       ·obtain⟨k1,k2⟩:=g5 hc
        subst k1
        refine .inl ⟨(g.1,g.2+o),c,cs,g1,(show w0.heap.size≤g.1∨LB L g.1 from hI.base hx g0),by rw[← hty];exact g4,g2,g3,k2,by rw[hol];simp only;omega,fun j d hj =>?_⟩
        rw[cw]at hj
        split at hj
        ·rw[Nat.add_assoc]
         refine⟨(g8 _ _ hj).1,(g8 _ _ hj).2.less fun b hb =>?_⟩
         rcases hb with hb|rfl
         ·exact .inl hb
         ·exact .inr ⟨x,r,g,hx,hz,g0,rfl⟩
        ·cases hj
       ·have hn:n=0:=by omega
        have hc0:c=0:=by omega
        subst hn hc0
        exact .inr ⟨rfl,by simp,_,g1⟩
      ·exact .inr ⟨rfl,by simp,A,g3⟩
     ·cases he
    ·cases he
   ·cases he
  ·rename_i nl tg xs ht
   rw[ht]at hsl
   split at he
   ·rename_i hnt
    simp only[Option.some.injEq,Prod.mk.injEq]at he
    obtain⟨rfl,rfl⟩:=he
    refine⟨rfl,a.tmps.getD i undef,_,_,_,_,rfl,pR hrs,.inr ⟨rfl,rfl,?_⟩⟩
    have hr:RP w (Own M s.h blk) (.sl nl tg 0 xs) (a.tmps.getD i undef):=hsl
    generalize a.tmps.getD i undef=u at *
    cases hr with
    | sl A c nl tight n xs us h1 h2 h3 h4 h5 h6 h7 h8 =>
     have hc:c=0:=by
      exact h5 hnt
     subst hc
     exact⟨A,rfl⟩
   ·cases he
  ·cases he
 ·cases he
theorem LO {args:List D} {vs:Array Value} {n i:Nat} (hs:vs.size=args.length):(vs++Array.replicate (n-vs.size) undef).getD i undef=vs.getD i undef∨args.getD i .und=.und:=by
 by_cases hi:i<args.length
 ·left
  have:i<vs.size:=by omega
  simp[Array.getD_eq_getD_getElem?,Array.getElem?_append_left this]
 ·right
  simp[List.getD,List.getElem?_eq_none (Nat.le_of_not_lt hi)]
theorem kD (hT:lC P T) (hΓ:bN P Γ) (hm:P.follows .mixedOrders=true) {mode:Mode} {f:FuncId} {fn:Func} {F:Nat} {lent:Option (D×Row)} {args:List D} {rk:RK} {out:Option Row} (hf:P.funcs[f]? = some fn)
  (hok:(match fn.body with|some c=>codeOk c|none=>true)=true) (hn:F6 lent args≤fn.ntmps) (hlo:HQ lent=true)
  (hr:aQ mode T Γ F fn lent args=some (rk,out)):pS P f lent args rk out:=by
 unfold aQ at hr
 split at hr<;>try (cases hr;done)
 rename_i c hc
 rw[hc]at hok
 simp only at hok
 split at hr<;>try (cases hr;done)
 rename_i hbig
 split at hr<;>try (cases hr;done)
 rename_i x s hne hv
 cases lent with
 | none =>
  intro w M vs hM hargs
  have hI:Inv fn.ntmps M none w (fun _=>none) (fun x v=>x<fn.ntmps∧v<0) (eP none args).t (eP none args).h { tmps:=vs++Array.replicate (fn.ntmps-vs.size) undef,defers:=[] } w:={
   tab:=fun b hb=>(hargs.tab b hb).less fun b hb=>by
    rcases hb with hb|⟨x,r,g,hx,_⟩
    ·exact hb
    ·cases hx
   below:=cu.refl _ _
   mlt:=hM
   lent:=fun b ⟨g,hg,_⟩=>by cases hg
   pin:=fun go hg=>by cases hg
   defers:=rfl
   tsz:=by have:=hargs.1;simp only[F6]at hn;simp;omega
   slots:=fun i=>by
    simp only[eP]
    rcases LO (n:=fn.ntmps) (i:=i) hargs.1 with he|he
    ·rw[he]
     by_cases hi:i<args.length
     ·have h1:=hargs.2 i _ (List.getElem?_eq_getElem hi)
      have e1:args.getD i .und=args[i]:=by simp[List.getD,hi]
      rw[e1]
      exact bX (h1.less fun b hb=>by
       rcases hb with hb|⟨x,r,g,hx,_⟩
       ·exact hb
       ·cases hx)
     ·have e1:args.getD i .und=.und:=by simp[List.getD,List.getElem?_eq_none (Nat.le_of_not_lt hi)]
      rw[e1]
      trivial
    ·rw[he];trivial
   rows:=fun x r hx=>by cases hx
   inj:=fun x y r s g g' hx=>by cases hx
   big:=hbig
   pha:=fun y r g hy=>by cases hy
   ali:=fun y r g hy=>by cases hy }
  refine calls_of_wp hf hc ?_
  refine AB hT hΓ hm c (eP none args) x s _ _ _ hv hok ⟨_,hI⟩ (fun a' w' hH =>?_)
  obtain⟨blk',hI'⟩:=hH
  have hbel:Below w.heap.size w w':=hI'.below.below (fun b ⟨g,hg,_⟩=>by cases hg)
  have hpost:a'.defers=[]∧∃v,(results fn a'.tmps).run P w'=.ok v w'∧(∃v',Ending.returned v=.returned v'∧Below w.heap.size w w'∧Bk w w' M (fun _=>False) v' rk):=by
   refine⟨hI'.defers,?_⟩
   cases mode with
   | clean =>
    simp only[gW,tI,kV]at hr
    split at hr<;>try (cases hr;done)
    rename_i ds fr o hres ho
    split at hr<;>try (cases hr;done)
    simp only[Option.some.injEq,Prod.mk.injEq]at hr
    obtain⟨rfl,_⟩:=hr
    obtain⟨v,hv1,hv2⟩:=Ao (P:=P) hT hI' hres (hI'.Yc fr)
    exact⟨v,hv1,v,rfl,hbel,hv2⟩
   | same =>
    simp only[gW,A5,kV]at hr
    split at hr<;>try (cases hr;done)
    split at hr
    ·rename_i hq;cases hq
    ·cases hr
   | tight =>
    simp only[gW,Cg]at hr
    split at hr<;>try (cases hr;done)
    rename_i i _ hrs
    have hsl:=hI'.slots i
    generalize s.t i=dd at *
    unfold uK at hr
    split at hr<;>try (cases hr;done)
    rename_i nl tg n xs
    simp only[Option.some.injEq,Prod.mk.injEq]at hr
    obtain⟨rfl,_⟩:=hr
    have hsl':RP w' (Own M s.h blk') (.sl nl tg n xs) (a'.tmps.getD i undef):=hsl
    exact⟨a'.tmps.getD i undef,pR hrs,_,rfl,hbel,hsl'.less fun b hb =>.inl hb⟩
   | fresh ty0 s0 =>
    obtain⟨rfl,v,ty,sz,n,cells,rfl,hv1,hv2⟩:=hI'.qk (P:=P) hr
    refine⟨v,hv1,v,rfl,hbel,?_⟩
    rcases hv2 with⟨g,k1,cs,k2,k3,k4⟩|hv2
    ·exact .inl ⟨g,k1,cs,k2,k3.imp id (fun⟨g,hg,_⟩=>by cases hg),k4⟩
    ·exact .inr hv2
  cases x with
  | normal=>exact hpost
  | ret=>exact hpost
  | exit n=>exact (hne n rfl).elim
 | some p =>
  obtain⟨d0,r⟩:=p
  intro w M go u0 vs hM hgoM hz hmp hrow hlv hargs
  have hown:∀b,Own M (eP (some (d0,r)) args).h (fun x=>if x=0 then go else none) b↔(M b∨mO go b):=by
   intro b
   constructor
   ·rintro (hb|⟨x,r',g,hx,_,hg,he⟩)
    ·exact .inl hb
    ·simp only[eP]at hx
     split at hx
     ·rename_i h0
      subst h0
      simp only[if_true]at hg
      exact .inr ⟨g,hg,he.symm⟩
     ·cases hx
   ·rintro (hb|⟨g,hg,he⟩)
    ·exact .inl hb
    ·exact .inr ⟨0,{ r with v:=0 },g,rfl,hz,by simpa using hg,he.symm⟩
  have hI:Inv fn.ntmps M (some go) w (fun x=>if x=0 then go else none) (fun x v=>x<fn.ntmps∧v<1) (eP (some (d0,r)) args).t (eP (some (d0,r)) args).h { tmps:=(#[u0]++vs)++Array.replicate (fn.ntmps-(#[u0]++vs).size) undef,defers:=[] } w:={
   tab:=fun b hb=>(hargs.tab b hb).less fun b hb=>(hown b).1 hb
   below:=cu.refl _ _
   mlt:=hM
   lent:=fun b ⟨g,hg,he⟩=>hgoM b ⟨g,by simpa using hg,he⟩
   pin:=fun go' hg=>by
    cases hg
    exact⟨⟨by simp only[F6]at hn;omega,Nat.zero_lt_one⟩,fun r' _ _=>⟨rfl,fun g _=>rfl⟩⟩
   defers:=rfl
   tsz:=by have:=hargs.1;simp only[F6]at hn;simp;omega
   slots:=fun i=>by
    simp only[eP]
    rcases LO (args:=d0::args) (vs:=#[u0]++vs) (n:=fn.ntmps) (i:=i) (by simp[hargs.1];omega) with he|he
    ·rw[he]
     cases i with
     | zero =>
      have e1:(#[u0]++vs).getD 0 undef=u0:=by simp[Array.getElem?_append]
      rw[e1]
      simp only[List.getD_cons_zero]
      cases d0 with
      | buf x v sz o n =>
       have hxv:x=0∧v=0:=by
        simp only[HQ]at hlo
        split at hlo<;>simp_all
       obtain⟨rfl,rfl⟩:=hxv
       exact⟨⟨by simp only[F6]at hn;omega,Nat.zero_lt_one⟩,fun r' h1 h2=>by simpa using hlv.2 ⟨0,0,[],false,false,false⟩ rfl rfl⟩
      | ptr x v o =>
       have hxv:x=0∧v=0:=by
        simp only[HQ]at hlo
        split at hlo<;>simp_all
       obtain⟨rfl,rfl⟩:=hxv
       exact⟨⟨by simp only[F6]at hn;omega,Nat.zero_lt_one⟩,fun r' h1 h2=>by simpa using hlv.2 ⟨0,0,[],false,false,false⟩ rfl rfl⟩
      | _=>simp[HQ]at hlo
     | succ i =>
      have e1:(#[u0]++vs).getD (i+1) undef=vs.getD i undef:=by
       simp only[Array.getD_eq_getD_getElem?]
       rw[Array.getElem?_append_right (by simp)]
       simp
      rw[e1]
      simp only[List.getD_cons_succ]
      by_cases hi:i<args.length
      ·have h1:=hargs.2 i _ (List.getElem?_eq_getElem hi)
       have e1:args.getD i .und=args[i]:=by simp[List.getD,hi]
       rw[e1]
       exact bX (h1.less fun b hb=>(hown b).1 hb)
      ·have e1:args.getD i .und=.und:=by simp[List.getD,List.getElem?_eq_none (Nat.le_of_not_lt hi)]
       rw[e1]
       trivial
    ·rw[he];trivial
   rows:=fun x r' hx=>by
    simp only[eP]at hx
    split at hx
    ·rename_i h0
     subst h0
     simp only[Option.some.injEq]at hx
     subst hx
     refine⟨fun hn=>⟨hn,Nat.zero_lt_one⟩,?_⟩
     simp only[if_true]
     cases go with
     | none=>exact hrow
     | some g =>
      obtain⟨cs,k1,k2,k3⟩:=hrow
      refine⟨.inr ⟨g,rfl,rfl⟩,?_⟩
      unfold kq
      simp only[hmp]
      exact⟨cs,k1,k2,fun j d hj=>⟨(k3 j d hj).1,(k3 j d hj).2.less fun b hb=>(hown b).1 hb⟩⟩
    ·cases hx
   inj:=fun x y r1 r2 g g' hx hy _ _ _=>by
    simp only[eP]at hx hy
    split at hx
    ·split at hy
     ·omega
     ·cases hy
    ·cases hx
   big:=hbig
   pha:=fun y r1 g hy hm=>by
    simp only[eP]at hy
    split at hy
    ·simp only[Option.some.injEq]at hy
     subst hy
     simp_all
    ·cases hy
   ali:=fun y r1 g hy hz1=>by
    simp only[eP]at hy
    split at hy
    ·simp only[Option.some.injEq]at hy
     subst hy
     simp_all
    ·cases hy }
  refine calls_of_wp hf hc ?_
  refine AB hT hΓ hm c (eP (some (d0,r)) args) x s _ _ _ hv hok ⟨_,hI⟩ (fun a' w' hH =>?_)
  obtain⟨blk',hI'⟩:=hH
  have hbel:cu (mO go) w w':=⟨hI'.below.os,hI'.below.tape,hI'.below.output,hI'.below.size,fun k hk hn=>hI'.below.block k hk (fun⟨g,hg,he⟩=>hn ⟨g,by simpa using hg,he⟩)⟩
  have hlast:∀r1,kV (some (d0,r)) s=some (some r1)→s.h 0=some r1∧r1.v=0∧r1.fz=false∧(r1.ty=r.ty∧r1.mp=false)∧blk' 0=go∧(∀g,go=some g→w'.shape? g.1=w.shape? g.1)∧(∀b,(M b∨mO go b)→Own M s.h blk' b):=by
   intro r1 hl
   simp only[kV]at hl
   split at hl<;>try (cases hl;done)
   rename_i r2 h2
   split at hl<;>try (cases hl;done)
   rename_i hcond
   simp only[Option.some.injEq]at hl
   subst hl
   obtain⟨c1,c2,c3⟩:=hcond
   obtain⟨_,k2⟩:=hI'.pin go rfl
   obtain⟨k3,k4⟩:=k2 r2 h2 c1
   refine⟨h2,c1,c2,c3,k3,k4,?_⟩
   rintro b (hb|⟨g,hg,he⟩)
   ·exact .inl hb
   ·exact .inr ⟨0,r2,g,h2,c2,k3.trans hg,he.symm⟩
  have hrowin:∀r1,kV (some (d0,r)) s=some (some r1)→Ob w' (fun b=>M b∨mO go b) go r1:=by
   intro r1 hl
   obtain⟨h1,_,_,h4,h5,_,h7⟩:=hlast r1 hl
   have:=(hI'.rows 0 r1 h1).2
   rw[h5]at this
   cases go with
   | none=>exact this
   | some g =>
    have this:=this.2
    unfold kq at this
    rw[h4.2]at this
    obtain⟨cs,k1,k2,k3⟩:=this
    exact⟨cs,k1,k2,fun j d hj=>⟨(k3 j d hj).1,(k3 j d hj).2.less h7⟩⟩
  have hpost:a'.defers=[]∧∃v,(results fn a'.tmps).run P w'=.ok v w'∧(∃v',Ending.returned v=.returned v'∧cu (mO go) w w'∧V0 w w' M go r out∧V1 w w' M go v' rk):=by
   refine⟨hI'.defers,?_⟩
   cases mode with
   | clean =>
    simp only[gW,tI]at hr
    split at hr<;>try (cases hr;done)
    rename_i ds fr o hres ho
    split at hr<;>try (cases hr;done)
    rename_i hfr
    simp only[Vy,Bool.not_eq_true',List.contains_eq_mem,decide_eq_false_iff_not]at hfr
    simp only[Option.some.injEq,Prod.mk.injEq]at hr
    obtain⟨rfl,rfl⟩:=hr
    cases o with
    | none =>
     simp only[kV]at ho
     split at ho<;>try (cases ho;done)
     split at ho<;>cases ho
    | some r1 =>
     obtain⟨h1,h2,h3,h4,h5,h6,h7⟩:=hlast r1 ho
     have hless:ot M s.h blk' fr (fun b=>M b∨mO go b):=by
      refine⟨h7,fun x hx r' g hx' hg hb =>?_⟩
      rcases hb with hb|⟨g',hg',he⟩
      ·exact hI'.notM hx' hg hb
      ·have:x=0:=hI'.inj x 0 r' r1 g g' hx' h1 hg (h5.trans hg') he
       subst this
       exact hfr hx
     obtain⟨v,hv1,hv2⟩:=Ao (P:=P) hT hI' hres hless
     exact⟨v,hv1,v,rfl,hbel,⟨h4.1,h3,h4.2,h6,hrowin r1 ho⟩,hv2⟩
   | same =>
    simp only[gW,A5]at hr
    split at hr<;>try (cases hr;done)
    rename_i i hrs
    split at hr<;>try (cases hr;done)
    rename_i sz o n r1 ht ho
    simp only[Option.some.injEq,Prod.mk.injEq]at hr
    obtain⟨rfl,rfl⟩:=hr
    obtain⟨h1,h2,h3,h4,h5,h6,h7⟩:=hlast r1 ho
    refine⟨a'.tmps.getD i undef,pR hrs,_,rfl,hbel,⟨h4.1,h3,h4.2,h6,hrowin r1 ho⟩,?_⟩
    have hsl:=hI'.slots i
    rw[ht]at hsl
    refine⟨trivial,fun r' _ _ =>?_⟩
    have:=hsl.2 r1 h1 h2
    rw[h5]at this
    exact this
   | tight =>
    simp only[gW,Cg]at hr
    cases hr
   | fresh ty0 s0 =>
    obtain⟨rfl,v,ty,sz,n,cells,rfl,hv1,hv2⟩:=hI'.qk (P:=P) hr
    refine⟨v,hv1,v,rfl,hbel,trivial,?_⟩
    rcases hv2 with⟨g,k1,cs,k2,k3,k4⟩|hv2
    ·exact .inl ⟨g,k1,cs,k2,k3.imp id (fun⟨g,hg,he⟩=>⟨g,by simpa using hg,he⟩),k4⟩
    ·exact .inr hv2
  cases x with
  | normal=>exact hpost
  | ret=>exact hpost
  | exit n=>exact (hne n rfl).elim
def ext (Γ:Env) (f:Nat) (l:Bool) (G:Option (D×Row)→List D→Option (RK×Option Row)):Env:=⟨fun g=>if g=f then l else Γ.lends g,fun g lent aai=>if g=f then G lent aai else Γ.sem g lent aai,Γ.own,Γ.hint,Γ.ins,Γ.grw⟩
theorem bN.ext (hΓ:bN P Γ) {f:Nat} {l:Bool} {G:Option (D×Row)→List D→Option (RK×Option Row)} (hG:∀lent aai rk out,G lent aai=some (rk,out)→pS P f lent aai rk out) (hc:iF P f):bN P (Am.ext Γ f l G):=by
 refine⟨fun g lent aai rk out h =>?_,hΓ.ins,hΓ.grw⟩
 simp only[Am.ext]at h
 split at h
 ·rename_i he;subst he;exact⟨hG lent aai rk out h,hc⟩
 ·exact hΓ.calls g lent aai rk out h
def aS:Env:=⟨fun _=>false,fun _ _ _=>none,fun _=>true,fun _=>none,fun _=>none,fun _=>none⟩
theorem bN.none:bN P aS:=⟨fun f lent args rk out h=>(by cases h),fun f p h=>(by cases h),fun f p h=>(by cases h)⟩
def keep (d:Nat) (Γ:Env):Env:=⟨Γ.lends,Γ.sem,fun i=>i != d&&Γ.own i,Γ.hint,Γ.ins,Γ.grw⟩
theorem bN.keep (hΓ:bN P Γ) (d:Nat):bN P (Am.keep d Γ):=⟨hΓ.calls,hΓ.ins,hΓ.grw⟩
def vX (d y:Nat) (Γ:Env):Env:=⟨Γ.lends,Γ.sem,Γ.own,fun i=>if i=d then some y else Γ.hint i,Γ.ins,Γ.grw⟩
theorem bN.vX (hΓ:bN P Γ) (d y:Nat):bN P (Am.vX d y Γ):=⟨hΓ.calls,hΓ.ins,hΓ.grw⟩
def CD (f:Nat) (p:Nat×Nat×Nat) (Γ:Env):Env:=⟨Γ.lends,Γ.sem,Γ.own,Γ.hint,fun g=>if g=f then some p else Γ.ins g,Γ.grw⟩
theorem bN.CD (hΓ:bN P Γ) {f:Nat} {p:Nat×Nat×Nat} (hi:RF P f p):bN P (Am.CD f p Γ):=⟨hΓ.calls,fun g q h=>by
 simp only[Am.CD]at h
 split at h
 ·rename_i he;subst he;cases h;exact hi
 ·exact hΓ.ins g q h,hΓ.grw⟩
def yX (f:Nat) (p:Grow) (Γ:Env):Env:=⟨Γ.lends,Γ.sem,Γ.own,Γ.hint,Γ.ins,fun g=>if g=f then some p else Γ.grw g⟩
theorem bN.yX (hΓ:bN P Γ) {f:Nat} {p:Grow} (hi:Bl P f p):bN P (Am.yX f p Γ):=⟨hΓ.calls,hΓ.ins,fun g q h=>by
 simp only[Am.yX]at h
 split at h
 ·rename_i he;subst he;cases h;exact hi
 ·exact hΓ.grw g q h⟩
end
def tab (t:Nat):Option Ty :=
 match t with
 | 2=>some ⟨.int .i64,1,8,[.int .i64 0],false⟩
 | 3=>some ⟨.int .i64,1,8,[.int .i64 0],false⟩
 | 4=>some ⟨.bool,1,1,[.bool false],false⟩
 | 5=>some ⟨.int .u8,1,1,[.int .u8 0],false⟩
 | 9=>some ⟨.str,1,16,[.string ⟨#[]⟩],false⟩
 | 12=>some ⟨.int .u64,1,8,[.int .u64 0],false⟩
 | 21=>some ⟨.int .i32,1,4,[.int .i32 0],false⟩
 | 22=>some ⟨.slice 87,1,24,[.slice none 0 0],false⟩
 | 23=>some ⟨.struct [(22,0)],1,24,[.slice none 0 0],false⟩
 | 24=>some ⟨.struct [(22,0)],1,24,[.slice none 0 0],false⟩
 | 25=>some ⟨.slice 3,1,24,[.slice none 0 0],false⟩
 | 26=>some ⟨.slice 67,1,24,[.slice none 0 0],false⟩
 | 27=>some ⟨.slice 55,1,24,[.slice none 0 0],false⟩
 | 28=>some ⟨.slice 25,1,24,[.slice none 0 0],false⟩
 | 33=>some ⟨.slice 74,1,24,[.slice none 0 0],false⟩
 | 34=>some ⟨.int .i64,1,8,[.int .i64 0],false⟩
 | 48=>some ⟨.struct [(3,0),(25,1)],2,32,[.int .i64 0,.slice none 0 0],false⟩
 | 49=>some ⟨.struct [(3,0),(25,1)],2,32,[.int .i64 0,.slice none 0 0],false⟩
 | 50=>some ⟨.struct [(49,0),(49,2)],4,64,[.int .i64 0,.slice none 0 0,.int .i64 0,.slice none 0 0],false⟩
 | 51=>some ⟨.struct [(49,0),(49,2)],4,64,[.int .i64 0,.slice none 0 0,.int .i64 0,.slice none 0 0],false⟩
 | 52=>some ⟨.struct [(51,0),(51,4)],8,128,[.int .i64 0,.slice none 0 0,.int .i64 0,.slice none 0 0,.int .i64 0,.slice none 0 0,.int .i64 0,.slice none 0 0],false⟩
 | 53=>some ⟨.struct [(51,0),(51,4)],8,128,[.int .i64 0,.slice none 0 0,.int .i64 0,.slice none 0 0,.int .i64 0,.slice none 0 0,.int .i64 0,.slice none 0 0],false⟩
 | 54=>some ⟨.struct [(3,0),(53,1)],9,136,[.int .i64 0,.int .i64 0,.slice none 0 0,.int .i64 0,.slice none 0 0,.int .i64 0,.slice none 0 0,.int .i64 0,.slice none 0 0],false⟩
 | 55=>some ⟨.struct [(3,0),(53,1)],9,136,[.int .i64 0,.int .i64 0,.slice none 0 0,.int .i64 0,.slice none 0 0,.int .i64 0,.slice none 0 0,.int .i64 0,.slice none 0 0],false⟩
 | 58=>some ⟨.slice 9,1,24,[.slice none 0 0],false⟩
 | 59=>some ⟨.struct [(58,0),(25,1),(25,2)],3,72,[.slice none 0 0,.slice none 0 0,.slice none 0 0],false⟩
 | 60=>some ⟨.struct [(58,0),(25,1),(25,2)],3,72,[.slice none 0 0,.slice none 0 0,.slice none 0 0],false⟩
 | 61=>some ⟨.int .u16,1,2,[.int .u16 0],false⟩
 | 62=>some ⟨.slice 53,1,24,[.slice none 0 0],false⟩
 | 66=>some ⟨.struct [(3,0),(25,1),(9,2),(3,3),(3,4)],5,64,[.int .i64 0,.slice none 0 0,.string ⟨#[]⟩,.int .i64 0,.int .i64 0],false⟩
 | 67=>some ⟨.struct [(3,0),(25,1),(9,2),(3,3),(3,4)],5,64,[.int .i64 0,.slice none 0 0,.string ⟨#[]⟩,.int .i64 0,.int .i64 0],false⟩
 | 73=>some ⟨.struct [(3,0),(3,1)],2,16,[.int .i64 0,.int .i64 0],true⟩
 | 74=>some ⟨.struct [(3,0),(3,1)],2,16,[.int .i64 0,.int .i64 0],true⟩
 | 86=>some ⟨.struct [(9,0),(3,1),(3,2),(3,3),(3,4)],5,48,[.string ⟨#[]⟩,.int .i64 0,.int .i64 0,.int .i64 0,.int .i64 0],true⟩
 | 87=>some ⟨.struct [(9,0),(3,1),(3,2),(3,3),(3,4)],5,48,[.string ⟨#[]⟩,.int .i64 0,.int .i64 0,.int .i64 0,.int .i64 0],true⟩
 | 91=>some ⟨.struct [(24,0),(3,1),(3,2),(3,3)],4,48,[.slice none 0 0,.int .i64 0,.int .i64 0,.int .i64 0],false⟩
 | 92=>some ⟨.struct [(24,0),(3,1),(3,2),(3,3)],4,48,[.slice none 0 0,.int .i64 0,.int .i64 0,.int .i64 0],false⟩
 | 109=>some ⟨.struct [(24,0)],1,24,[.slice none 0 0],false⟩
 | 110=>some ⟨.struct [(24,0)],1,24,[.slice none 0 0],false⟩
 | 129=>some ⟨.slice 4,1,24,[.slice none 0 0],false⟩
 | 141=>some ⟨.int .u64,1,8,[.int .u64 0],false⟩
 | 148=>some ⟨.slice 5,1,24,[.slice none 0 0],false⟩
 | 169=>some ⟨.int .i64,1,8,[.int .i64 0],false⟩
 | 176=>some ⟨.int .u32,1,4,[.int .u32 0],false⟩
 | 178=>some ⟨.int .u64,1,8,[.int .u64 0],false⟩
 | 185=>some ⟨.int .u64,1,8,[.int .u64 0],false⟩
 | 198=>some ⟨.arr 24 5,24,24,[.int .u8 0,.int .u8 0,.int .u8 0,.int .u8 0,.int .u8 0,.int .u8 0,.int .u8 0,.int .u8 0,.int .u8 0,.int .u8 0,.int .u8 0,.int .u8 0,.int .u8 0,.int .u8 0,.int .u8 0,.int .u8 0,.int .u8 0,.int .u8 0,.int .u8 0,.int .u8 0,.int .u8 0,.int .u8 0,.int .u8 0,.int .u8 0],false⟩
 | 204=>some ⟨.arr 20 178,20,160,[.int .u64 0,.int .u64 0,.int .u64 0,.int .u64 0,.int .u64 0,.int .u64 0,.int .u64 0,.int .u64 0,.int .u64 0,.int .u64 0,.int .u64 0,.int .u64 0,.int .u64 0,.int .u64 0,.int .u64 0,.int .u64 0,.int .u64 0,.int .u64 0,.int .u64 0,.int .u64 0],false⟩
 | 205=>some ⟨.arr 65 5,65,65,[.int .u8 0,.int .u8 0,.int .u8 0,.int .u8 0,.int .u8 0,.int .u8 0,.int .u8 0,.int .u8 0,.int .u8 0,.int .u8 0,.int .u8 0,.int .u8 0,.int .u8 0,.int .u8 0,.int .u8 0,.int .u8 0,.int .u8 0,.int .u8 0,.int .u8 0,.int .u8 0,.int .u8 0,.int .u8 0,.int .u8 0,.int .u8 0,.int .u8 0,.int .u8 0,.int .u8 0,.int .u8 0,.int .u8 0,.int .u8 0,.int .u8 0,.int .u8 0,.int .u8 0,.int .u8 0,.int .u8 0,.int .u8 0,.int .u8 0,.int .u8 0,.int .u8 0,.int .u8 0,.int .u8 0,.int .u8 0,.int .u8 0,.int .u8 0,.int .u8 0,.int .u8 0,.int .u8 0,.int .u8 0,.int .u8 0,.int .u8 0,.int .u8 0,.int .u8 0,.int .u8 0,.int .u8 0,.int .u8 0,.int .u8 0,.int .u8 0,.int .u8 0,.int .u8 0,.int .u8 0,.int .u8 0,.int .u8 0,.int .u8 0,.int .u8 0,.int .u8 0],false⟩
 | 206=>some ⟨.arr 32 5,32,32,[.int .u8 0,.int .u8 0,.int .u8 0,.int .u8 0,.int .u8 0,.int .u8 0,.int .u8 0,.int .u8 0,.int .u8 0,.int .u8 0,.int .u8 0,.int .u8 0,.int .u8 0,.int .u8 0,.int .u8 0,.int .u8 0,.int .u8 0,.int .u8 0,.int .u8 0,.int .u8 0,.int .u8 0,.int .u8 0,.int .u8 0,.int .u8 0,.int .u8 0,.int .u8 0,.int .u8 0,.int .u8 0,.int .u8 0,.int .u8 0,.int .u8 0,.int .u8 0],false⟩
 | 207=>some ⟨.arr 64 5,64,64,[.int .u8 0,.int .u8 0,.int .u8 0,.int .u8 0,.int .u8 0,.int .u8 0,.int .u8 0,.int .u8 0,.int .u8 0,.int .u8 0,.int .u8 0,.int .u8 0,.int .u8 0,.int .u8 0,.int .u8 0,.int .u8 0,.int .u8 0,.int .u8 0,.int .u8 0,.int .u8 0,.int .u8 0,.int .u8 0,.int .u8 0,.int .u8 0,.int .u8 0,.int .u8 0,.int .u8 0,.int .u8 0,.int .u8 0,.int .u8 0,.int .u8 0,.int .u8 0,.int .u8 0,.int .u8 0,.int .u8 0,.int .u8 0,.int .u8 0,.int .u8 0,.int .u8 0,.int .u8 0,.int .u8 0,.int .u8 0,.int .u8 0,.int .u8 0,.int .u8 0,.int .u8 0,.int .u8 0,.int .u8 0,.int .u8 0,.int .u8 0,.int .u8 0,.int .u8 0,.int .u8 0,.int .u8 0,.int .u8 0,.int .u8 0,.int .u8 0,.int .u8 0,.int .u8 0,.int .u8 0,.int .u8 0,.int .u8 0,.int .u8 0,.int .u8 0],false⟩
 | _=>none
theorem WD:tab 2=some ⟨.int .i64,1,8,[.int .i64 0],false⟩:=rfl
theorem LR:tab 3=some ⟨.int .i64,1,8,[.int .i64 0],false⟩:=rfl
theorem WE:tab 4=some ⟨.bool,1,1,[.bool false],false⟩:=rfl
theorem WG:tab 5=some ⟨.int .u8,1,1,[.int .u8 0],false⟩:=rfl
theorem P0:tab 9=some ⟨.str,1,16,[.string ⟨#[]⟩],false⟩:=rfl
theorem T3:tab 12=some ⟨.int .u64,1,8,[.int .u64 0],false⟩:=rfl
theorem T4:tab 21=some ⟨.int .i32,1,4,[.int .i32 0],false⟩:=rfl
theorem ND:tab 22=some ⟨.slice 87,1,24,[.slice none 0 0],false⟩:=rfl
theorem T5:tab 23=some ⟨.struct [(22,0)],1,24,[.slice none 0 0],false⟩:=rfl
theorem Ih:tab 24=some ⟨.struct [(22,0)],1,24,[.slice none 0 0],false⟩:=rfl
theorem NF:tab 25=some ⟨.slice 3,1,24,[.slice none 0 0],false⟩:=rfl
theorem T6:tab 26=some ⟨.slice 67,1,24,[.slice none 0 0],false⟩:=rfl
theorem T7:tab 27=some ⟨.slice 55,1,24,[.slice none 0 0],false⟩:=rfl
theorem T8:tab 28=some ⟨.slice 25,1,24,[.slice none 0 0],false⟩:=rfl
theorem T9:tab 33=some ⟨.slice 74,1,24,[.slice none 0 0],false⟩:=rfl
theorem Ua:tab 34=some ⟨.int .i64,1,8,[.int .i64 0],false⟩:=rfl
theorem Ub:tab 48=some ⟨.struct [(3,0),(25,1)],2,32,[.int .i64 0,.slice none 0 0],false⟩:=rfl
theorem NG:tab 49=some ⟨.struct [(3,0),(25,1)],2,32,[.int .i64 0,.slice none 0 0],false⟩:=rfl
theorem Uc:tab 50=some ⟨.struct [(49,0),(49,2)],4,64,[.int .i64 0,.slice none 0 0,.int .i64 0,.slice none 0 0],false⟩:=rfl
theorem NH:tab 51=some ⟨.struct [(49,0),(49,2)],4,64,[.int .i64 0,.slice none 0 0,.int .i64 0,.slice none 0 0],false⟩:=rfl
theorem Ud:tab 52=some ⟨.struct [(51,0),(51,4)],8,128,[.int .i64 0,.slice none 0 0,.int .i64 0,.slice none 0 0,.int .i64 0,.slice none 0 0,.int .i64 0,.slice none 0 0],false⟩:=rfl
theorem Ii:tab 53=some ⟨.struct [(51,0),(51,4)],8,128,[.int .i64 0,.slice none 0 0,.int .i64 0,.slice none 0 0,.int .i64 0,.slice none 0 0,.int .i64 0,.slice none 0 0],false⟩:=rfl
theorem Ue:tab 54=some ⟨.struct [(3,0),(53,1)],9,136,[.int .i64 0,.int .i64 0,.slice none 0 0,.int .i64 0,.slice none 0 0,.int .i64 0,.slice none 0 0,.int .i64 0,.slice none 0 0],false⟩:=rfl
theorem Uf:tab 55=some ⟨.struct [(3,0),(53,1)],9,136,[.int .i64 0,.int .i64 0,.slice none 0 0,.int .i64 0,.slice none 0 0,.int .i64 0,.slice none 0 0,.int .i64 0,.slice none 0 0],false⟩:=rfl
theorem NI:tab 58=some ⟨.slice 9,1,24,[.slice none 0 0],false⟩:=rfl
theorem Ug:tab 59=some ⟨.struct [(58,0),(25,1),(25,2)],3,72,[.slice none 0 0,.slice none 0 0,.slice none 0 0],false⟩:=rfl
theorem Ij:tab 60=some ⟨.struct [(58,0),(25,1),(25,2)],3,72,[.slice none 0 0,.slice none 0 0,.slice none 0 0],false⟩:=rfl
theorem Uh:tab 61=some ⟨.int .u16,1,2,[.int .u16 0],false⟩:=rfl
theorem Ik:tab 62=some ⟨.slice 53,1,24,[.slice none 0 0],false⟩:=rfl
theorem Ui:tab 66=some ⟨.struct [(3,0),(25,1),(9,2),(3,3),(3,4)],5,64,[.int .i64 0,.slice none 0 0,.string ⟨#[]⟩,.int .i64 0,.int .i64 0],false⟩:=rfl
theorem Uj:tab 67=some ⟨.struct [(3,0),(25,1),(9,2),(3,3),(3,4)],5,64,[.int .i64 0,.slice none 0 0,.string ⟨#[]⟩,.int .i64 0,.int .i64 0],false⟩:=rfl
theorem Uk:tab 73=some ⟨.struct [(3,0),(3,1)],2,16,[.int .i64 0,.int .i64 0],true⟩:=rfl
theorem Ul:tab 74=some ⟨.struct [(3,0),(3,1)],2,16,[.int .i64 0,.int .i64 0],true⟩:=rfl
theorem Um:tab 86=some ⟨.struct [(9,0),(3,1),(3,2),(3,3),(3,4)],5,48,[.string ⟨#[]⟩,.int .i64 0,.int .i64 0,.int .i64 0,.int .i64 0],true⟩:=rfl
theorem Il:tab 87=some ⟨.struct [(9,0),(3,1),(3,2),(3,3),(3,4)],5,48,[.string ⟨#[]⟩,.int .i64 0,.int .i64 0,.int .i64 0,.int .i64 0],true⟩:=rfl
theorem Un:tab 91=some ⟨.struct [(24,0),(3,1),(3,2),(3,3)],4,48,[.slice none 0 0,.int .i64 0,.int .i64 0,.int .i64 0],false⟩:=rfl
theorem Uo:tab 92=some ⟨.struct [(24,0),(3,1),(3,2),(3,3)],4,48,[.slice none 0 0,.int .i64 0,.int .i64 0,.int .i64 0],false⟩:=rfl
theorem PL:tab 109=some ⟨.struct [(24,0)],1,24,[.slice none 0 0],false⟩:=rfl
theorem PM:tab 110=some ⟨.struct [(24,0)],1,24,[.slice none 0 0],false⟩:=rfl
theorem PN:tab 129=some ⟨.slice 4,1,24,[.slice none 0 0],false⟩:=rfl
theorem PO:tab 141=some ⟨.int .u64,1,8,[.int .u64 0],false⟩:=rfl
theorem PQ:tab 148=some ⟨.slice 5,1,24,[.slice none 0 0],false⟩:=rfl
theorem PR:tab 169=some ⟨.int .i64,1,8,[.int .i64 0],false⟩:=rfl
theorem PS:tab 176=some ⟨.int .u32,1,4,[.int .u32 0],false⟩:=rfl
theorem PT:tab 178=some ⟨.int .u64,1,8,[.int .u64 0],false⟩:=rfl
theorem PU:tab 185=some ⟨.int .u64,1,8,[.int .u64 0],false⟩:=rfl
theorem PV:tab 198=some ⟨.arr 24 5,24,24,[.int .u8 0,.int .u8 0,.int .u8 0,.int .u8 0,.int .u8 0,.int .u8 0,.int .u8 0,.int .u8 0,.int .u8 0,.int .u8 0,.int .u8 0,.int .u8 0,.int .u8 0,.int .u8 0,.int .u8 0,.int .u8 0,.int .u8 0,.int .u8 0,.int .u8 0,.int .u8 0,.int .u8 0,.int .u8 0,.int .u8 0,.int .u8 0],false⟩:=rfl
theorem PW:tab 204=some ⟨.arr 20 178,20,160,[.int .u64 0,.int .u64 0,.int .u64 0,.int .u64 0,.int .u64 0,.int .u64 0,.int .u64 0,.int .u64 0,.int .u64 0,.int .u64 0,.int .u64 0,.int .u64 0,.int .u64 0,.int .u64 0,.int .u64 0,.int .u64 0,.int .u64 0,.int .u64 0,.int .u64 0,.int .u64 0],false⟩:=rfl
theorem PX:tab 205=some ⟨.arr 65 5,65,65,[.int .u8 0,.int .u8 0,.int .u8 0,.int .u8 0,.int .u8 0,.int .u8 0,.int .u8 0,.int .u8 0,.int .u8 0,.int .u8 0,.int .u8 0,.int .u8 0,.int .u8 0,.int .u8 0,.int .u8 0,.int .u8 0,.int .u8 0,.int .u8 0,.int .u8 0,.int .u8 0,.int .u8 0,.int .u8 0,.int .u8 0,.int .u8 0,.int .u8 0,.int .u8 0,.int .u8 0,.int .u8 0,.int .u8 0,.int .u8 0,.int .u8 0,.int .u8 0,.int .u8 0,.int .u8 0,.int .u8 0,.int .u8 0,.int .u8 0,.int .u8 0,.int .u8 0,.int .u8 0,.int .u8 0,.int .u8 0,.int .u8 0,.int .u8 0,.int .u8 0,.int .u8 0,.int .u8 0,.int .u8 0,.int .u8 0,.int .u8 0,.int .u8 0,.int .u8 0,.int .u8 0,.int .u8 0,.int .u8 0,.int .u8 0,.int .u8 0,.int .u8 0,.int .u8 0,.int .u8 0,.int .u8 0,.int .u8 0,.int .u8 0,.int .u8 0,.int .u8 0],false⟩:=rfl
theorem PY:tab 206=some ⟨.arr 32 5,32,32,[.int .u8 0,.int .u8 0,.int .u8 0,.int .u8 0,.int .u8 0,.int .u8 0,.int .u8 0,.int .u8 0,.int .u8 0,.int .u8 0,.int .u8 0,.int .u8 0,.int .u8 0,.int .u8 0,.int .u8 0,.int .u8 0,.int .u8 0,.int .u8 0,.int .u8 0,.int .u8 0,.int .u8 0,.int .u8 0,.int .u8 0,.int .u8 0,.int .u8 0,.int .u8 0,.int .u8 0,.int .u8 0,.int .u8 0,.int .u8 0,.int .u8 0,.int .u8 0],false⟩:=rfl
theorem PZ:tab 207=some ⟨.arr 64 5,64,64,[.int .u8 0,.int .u8 0,.int .u8 0,.int .u8 0,.int .u8 0,.int .u8 0,.int .u8 0,.int .u8 0,.int .u8 0,.int .u8 0,.int .u8 0,.int .u8 0,.int .u8 0,.int .u8 0,.int .u8 0,.int .u8 0,.int .u8 0,.int .u8 0,.int .u8 0,.int .u8 0,.int .u8 0,.int .u8 0,.int .u8 0,.int .u8 0,.int .u8 0,.int .u8 0,.int .u8 0,.int .u8 0,.int .u8 0,.int .u8 0,.int .u8 0,.int .u8 0,.int .u8 0,.int .u8 0,.int .u8 0,.int .u8 0,.int .u8 0,.int .u8 0,.int .u8 0,.int .u8 0,.int .u8 0,.int .u8 0,.int .u8 0,.int .u8 0,.int .u8 0,.int .u8 0,.int .u8 0,.int .u8 0,.int .u8 0,.int .u8 0,.int .u8 0,.int .u8 0,.int .u8 0,.int .u8 0,.int .u8 0,.int .u8 0,.int .u8 0,.int .u8 0,.int .u8 0,.int .u8 0,.int .u8 0,.int .u8 0,.int .u8 0,.int .u8 0],false⟩:=rfl
theorem ZO:dG Tryz.prog 2 ⟨.int .i64,1,8,[.int .i64 0],false⟩:=⟨by kernel_rfl,by kernel_rfl,by kernel_rfl,fun h=>by cases h⟩
theorem ZP:dG Tryz.prog 3 ⟨.int .i64,1,8,[.int .i64 0],false⟩:=⟨by kernel_rfl,by kernel_rfl,by kernel_rfl,fun h=>by cases h⟩
theorem ZQ:dG Tryz.prog 4 ⟨.bool,1,1,[.bool false],false⟩:=⟨by kernel_rfl,by kernel_rfl,by kernel_rfl,fun h=>by cases h⟩
theorem ZR:dG Tryz.prog 5 ⟨.int .u8,1,1,[.int .u8 0],false⟩:=⟨by kernel_rfl,by kernel_rfl,by kernel_rfl,fun h=>by cases h⟩
theorem ZS:dG Tryz.prog 9 ⟨.str,1,16,[.string ⟨#[]⟩],false⟩:=⟨by kernel_rfl,by kernel_rfl,by kernel_rfl,fun h=>by cases h⟩
theorem Yz:dG Tryz.prog 12 ⟨.int .u64,1,8,[.int .u64 0],false⟩:=⟨by kernel_rfl,by kernel_rfl,by kernel_rfl,fun h=>by cases h⟩
theorem YA:dG Tryz.prog 21 ⟨.int .i32,1,4,[.int .i32 0],false⟩:=⟨by kernel_rfl,by kernel_rfl,by kernel_rfl,fun h=>by cases h⟩
theorem YB:dG Tryz.prog 22 ⟨.slice 87,1,24,[.slice none 0 0],false⟩:=⟨by kernel_rfl,by kernel_rfl,by kernel_rfl,fun h=>by cases h⟩
theorem YC:dG Tryz.prog 23 ⟨.struct [(22,0)],1,24,[.slice none 0 0],false⟩:=⟨by kernel_rfl,by kernel_rfl,by kernel_rfl,fun h=>by cases h⟩
theorem YD:dG Tryz.prog 24 ⟨.struct [(22,0)],1,24,[.slice none 0 0],false⟩:=⟨by kernel_rfl,by kernel_rfl,by kernel_rfl,fun h=>by cases h⟩
theorem YE:dG Tryz.prog 25 ⟨.slice 3,1,24,[.slice none 0 0],false⟩:=⟨by kernel_rfl,by kernel_rfl,by kernel_rfl,fun h=>by cases h⟩
theorem YF:dG Tryz.prog 26 ⟨.slice 67,1,24,[.slice none 0 0],false⟩:=⟨by kernel_rfl,by kernel_rfl,by kernel_rfl,fun h=>by cases h⟩
theorem YG:dG Tryz.prog 27 ⟨.slice 55,1,24,[.slice none 0 0],false⟩:=⟨by kernel_rfl,by kernel_rfl,by kernel_rfl,fun h=>by cases h⟩
theorem YH:dG Tryz.prog 28 ⟨.slice 25,1,24,[.slice none 0 0],false⟩:=⟨by kernel_rfl,by kernel_rfl,by kernel_rfl,fun h=>by cases h⟩
theorem YI:dG Tryz.prog 33 ⟨.slice 74,1,24,[.slice none 0 0],false⟩:=⟨by kernel_rfl,by kernel_rfl,by kernel_rfl,fun h=>by cases h⟩
theorem YJ:dG Tryz.prog 34 ⟨.int .i64,1,8,[.int .i64 0],false⟩:=⟨by kernel_rfl,by kernel_rfl,by kernel_rfl,fun h=>by cases h⟩
theorem YK:dG Tryz.prog 48 ⟨.struct [(3,0),(25,1)],2,32,[.int .i64 0,.slice none 0 0],false⟩:=⟨by kernel_rfl,by kernel_rfl,by kernel_rfl,fun h=>by cases h⟩
theorem YL:dG Tryz.prog 49 ⟨.struct [(3,0),(25,1)],2,32,[.int .i64 0,.slice none 0 0],false⟩:=⟨by kernel_rfl,by kernel_rfl,by kernel_rfl,fun h=>by cases h⟩
theorem YM:dG Tryz.prog 50 ⟨.struct [(49,0),(49,2)],4,64,[.int .i64 0,.slice none 0 0,.int .i64 0,.slice none 0 0],false⟩:=⟨by kernel_rfl,by kernel_rfl,by kernel_rfl,fun h=>by cases h⟩
theorem YN:dG Tryz.prog 51 ⟨.struct [(49,0),(49,2)],4,64,[.int .i64 0,.slice none 0 0,.int .i64 0,.slice none 0 0],false⟩:=⟨by kernel_rfl,by kernel_rfl,by kernel_rfl,fun h=>by cases h⟩
theorem YO:dG Tryz.prog 52 ⟨.struct [(51,0),(51,4)],8,128,[.int .i64 0,.slice none 0 0,.int .i64 0,.slice none 0 0,.int .i64 0,.slice none 0 0,.int .i64 0,.slice none 0 0],false⟩:=⟨by kernel_rfl,by kernel_rfl,by kernel_rfl,fun h=>by cases h⟩
theorem YP:dG Tryz.prog 53 ⟨.struct [(51,0),(51,4)],8,128,[.int .i64 0,.slice none 0 0,.int .i64 0,.slice none 0 0,.int .i64 0,.slice none 0 0,.int .i64 0,.slice none 0 0],false⟩:=⟨by kernel_rfl,by kernel_rfl,by kernel_rfl,fun h=>by cases h⟩
theorem YQ:dG Tryz.prog 54 ⟨.struct [(3,0),(53,1)],9,136,[.int .i64 0,.int .i64 0,.slice none 0 0,.int .i64 0,.slice none 0 0,.int .i64 0,.slice none 0 0,.int .i64 0,.slice none 0 0],false⟩:=⟨by kernel_rfl,by kernel_rfl,by kernel_rfl,fun h=>by cases h⟩
theorem YR:dG Tryz.prog 55 ⟨.struct [(3,0),(53,1)],9,136,[.int .i64 0,.int .i64 0,.slice none 0 0,.int .i64 0,.slice none 0 0,.int .i64 0,.slice none 0 0,.int .i64 0,.slice none 0 0],false⟩:=⟨by kernel_rfl,by kernel_rfl,by kernel_rfl,fun h=>by cases h⟩
theorem YS:dG Tryz.prog 58 ⟨.slice 9,1,24,[.slice none 0 0],false⟩:=⟨by kernel_rfl,by kernel_rfl,by kernel_rfl,fun h=>by cases h⟩
theorem YT:dG Tryz.prog 59 ⟨.struct [(58,0),(25,1),(25,2)],3,72,[.slice none 0 0,.slice none 0 0,.slice none 0 0],false⟩:=⟨by kernel_rfl,by kernel_rfl,by kernel_rfl,fun h=>by cases h⟩
theorem YU:dG Tryz.prog 60 ⟨.struct [(58,0),(25,1),(25,2)],3,72,[.slice none 0 0,.slice none 0 0,.slice none 0 0],false⟩:=⟨by kernel_rfl,by kernel_rfl,by kernel_rfl,fun h=>by cases h⟩
theorem YV:dG Tryz.prog 61 ⟨.int .u16,1,2,[.int .u16 0],false⟩:=⟨by kernel_rfl,by kernel_rfl,by kernel_rfl,fun h=>by cases h⟩
theorem YW:dG Tryz.prog 62 ⟨.slice 53,1,24,[.slice none 0 0],false⟩:=⟨by kernel_rfl,by kernel_rfl,by kernel_rfl,fun h=>by cases h⟩
theorem YX:dG Tryz.prog 66 ⟨.struct [(3,0),(25,1),(9,2),(3,3),(3,4)],5,64,[.int .i64 0,.slice none 0 0,.string ⟨#[]⟩,.int .i64 0,.int .i64 0],false⟩:=⟨by kernel_rfl,by kernel_rfl,by kernel_rfl,fun h=>by cases h⟩
theorem YY:dG Tryz.prog 67 ⟨.struct [(3,0),(25,1),(9,2),(3,3),(3,4)],5,64,[.int .i64 0,.slice none 0 0,.string ⟨#[]⟩,.int .i64 0,.int .i64 0],false⟩:=⟨by kernel_rfl,by kernel_rfl,by kernel_rfl,fun h=>by cases h⟩
theorem YZ:dG Tryz.prog 73 ⟨.struct [(3,0),(3,1)],2,16,[.int .i64 0,.int .i64 0],true⟩:=⟨by kernel_rfl,by kernel_rfl,by kernel_rfl,fun _=>⟨by kernel_rfl,by kernel_rfl,by kernel_rfl⟩⟩
theorem Y0:dG Tryz.prog 74 ⟨.struct [(3,0),(3,1)],2,16,[.int .i64 0,.int .i64 0],true⟩:=⟨by kernel_rfl,by kernel_rfl,by kernel_rfl,fun _=>⟨by kernel_rfl,by kernel_rfl,by kernel_rfl⟩⟩
theorem Y1:dG Tryz.prog 86 ⟨.struct [(9,0),(3,1),(3,2),(3,3),(3,4)],5,48,[.string ⟨#[]⟩,.int .i64 0,.int .i64 0,.int .i64 0,.int .i64 0],true⟩:=⟨by kernel_rfl,by kernel_rfl,by kernel_rfl,fun _=>⟨by kernel_rfl,by kernel_rfl,by kernel_rfl⟩⟩
theorem WH:dG Tryz.prog 87 ⟨.struct [(9,0),(3,1),(3,2),(3,3),(3,4)],5,48,[.string ⟨#[]⟩,.int .i64 0,.int .i64 0,.int .i64 0,.int .i64 0],true⟩:=⟨by kernel_rfl,by kernel_rfl,by kernel_rfl,fun _=>⟨by kernel_rfl,by kernel_rfl,by kernel_rfl⟩⟩
theorem Y2:dG Tryz.prog 91 ⟨.struct [(24,0),(3,1),(3,2),(3,3)],4,48,[.slice none 0 0,.int .i64 0,.int .i64 0,.int .i64 0],false⟩:=⟨by kernel_rfl,by kernel_rfl,by kernel_rfl,fun h=>by cases h⟩
theorem Y3:dG Tryz.prog 92 ⟨.struct [(24,0),(3,1),(3,2),(3,3)],4,48,[.slice none 0 0,.int .i64 0,.int .i64 0,.int .i64 0],false⟩:=⟨by kernel_rfl,by kernel_rfl,by kernel_rfl,fun h=>by cases h⟩
theorem Xp:dG Tryz.prog 109 ⟨.struct [(24,0)],1,24,[.slice none 0 0],false⟩:=⟨by kernel_rfl,by kernel_rfl,by kernel_rfl,fun h=>by cases h⟩
theorem Xq:dG Tryz.prog 110 ⟨.struct [(24,0)],1,24,[.slice none 0 0],false⟩:=⟨by kernel_rfl,by kernel_rfl,by kernel_rfl,fun h=>by cases h⟩
theorem Xr:dG Tryz.prog 129 ⟨.slice 4,1,24,[.slice none 0 0],false⟩:=⟨by kernel_rfl,by kernel_rfl,by kernel_rfl,fun h=>by cases h⟩
theorem Xs:dG Tryz.prog 141 ⟨.int .u64,1,8,[.int .u64 0],false⟩:=⟨by kernel_rfl,by kernel_rfl,by kernel_rfl,fun h=>by cases h⟩
theorem Xt:dG Tryz.prog 148 ⟨.slice 5,1,24,[.slice none 0 0],false⟩:=⟨by kernel_rfl,by kernel_rfl,by kernel_rfl,fun h=>by cases h⟩
theorem Xu:dG Tryz.prog 169 ⟨.int .i64,1,8,[.int .i64 0],false⟩:=⟨by kernel_rfl,by kernel_rfl,by kernel_rfl,fun h=>by cases h⟩
theorem Xv:dG Tryz.prog 176 ⟨.int .u32,1,4,[.int .u32 0],false⟩:=⟨by kernel_rfl,by kernel_rfl,by kernel_rfl,fun h=>by cases h⟩
theorem Xw:dG Tryz.prog 178 ⟨.int .u64,1,8,[.int .u64 0],false⟩:=⟨by kernel_rfl,by kernel_rfl,by kernel_rfl,fun h=>by cases h⟩
theorem Xx:dG Tryz.prog 185 ⟨.int .u64,1,8,[.int .u64 0],false⟩:=⟨by kernel_rfl,by kernel_rfl,by kernel_rfl,fun h=>by cases h⟩
theorem Xy:dG Tryz.prog 198 ⟨.arr 24 5,24,24,[.int .u8 0,.int .u8 0,.int .u8 0,.int .u8 0,.int .u8 0,.int .u8 0,.int .u8 0,.int .u8 0,.int .u8 0,.int .u8 0,.int .u8 0,.int .u8 0,.int .u8 0,.int .u8 0,.int .u8 0,.int .u8 0,.int .u8 0,.int .u8 0,.int .u8 0,.int .u8 0,.int .u8 0,.int .u8 0,.int .u8 0,.int .u8 0],false⟩:=⟨by kernel_rfl,by kernel_rfl,by kernel_rfl,fun h=>by cases h⟩
theorem Xz:dG Tryz.prog 204 ⟨.arr 20 178,20,160,[.int .u64 0,.int .u64 0,.int .u64 0,.int .u64 0,.int .u64 0,.int .u64 0,.int .u64 0,.int .u64 0,.int .u64 0,.int .u64 0,.int .u64 0,.int .u64 0,.int .u64 0,.int .u64 0,.int .u64 0,.int .u64 0,.int .u64 0,.int .u64 0,.int .u64 0,.int .u64 0],false⟩:=⟨by kernel_rfl,by kernel_rfl,by kernel_rfl,fun h=>by cases h⟩
theorem XA:dG Tryz.prog 205 ⟨.arr 65 5,65,65,[.int .u8 0,.int .u8 0,.int .u8 0,.int .u8 0,.int .u8 0,.int .u8 0,.int .u8 0,.int .u8 0,.int .u8 0,.int .u8 0,.int .u8 0,.int .u8 0,.int .u8 0,.int .u8 0,.int .u8 0,.int .u8 0,.int .u8 0,.int .u8 0,.int .u8 0,.int .u8 0,.int .u8 0,.int .u8 0,.int .u8 0,.int .u8 0,.int .u8 0,.int .u8 0,.int .u8 0,.int .u8 0,.int .u8 0,.int .u8 0,.int .u8 0,.int .u8 0,.int .u8 0,.int .u8 0,.int .u8 0,.int .u8 0,.int .u8 0,.int .u8 0,.int .u8 0,.int .u8 0,.int .u8 0,.int .u8 0,.int .u8 0,.int .u8 0,.int .u8 0,.int .u8 0,.int .u8 0,.int .u8 0,.int .u8 0,.int .u8 0,.int .u8 0,.int .u8 0,.int .u8 0,.int .u8 0,.int .u8 0,.int .u8 0,.int .u8 0,.int .u8 0,.int .u8 0,.int .u8 0,.int .u8 0,.int .u8 0,.int .u8 0,.int .u8 0,.int .u8 0],false⟩:=⟨by kernel_rfl,by kernel_rfl,by kernel_rfl,fun h=>by cases h⟩
theorem XB:dG Tryz.prog 206 ⟨.arr 32 5,32,32,[.int .u8 0,.int .u8 0,.int .u8 0,.int .u8 0,.int .u8 0,.int .u8 0,.int .u8 0,.int .u8 0,.int .u8 0,.int .u8 0,.int .u8 0,.int .u8 0,.int .u8 0,.int .u8 0,.int .u8 0,.int .u8 0,.int .u8 0,.int .u8 0,.int .u8 0,.int .u8 0,.int .u8 0,.int .u8 0,.int .u8 0,.int .u8 0,.int .u8 0,.int .u8 0,.int .u8 0,.int .u8 0,.int .u8 0,.int .u8 0,.int .u8 0,.int .u8 0],false⟩:=⟨by kernel_rfl,by kernel_rfl,by kernel_rfl,fun h=>by cases h⟩
theorem XC:dG Tryz.prog 207 ⟨.arr 64 5,64,64,[.int .u8 0,.int .u8 0,.int .u8 0,.int .u8 0,.int .u8 0,.int .u8 0,.int .u8 0,.int .u8 0,.int .u8 0,.int .u8 0,.int .u8 0,.int .u8 0,.int .u8 0,.int .u8 0,.int .u8 0,.int .u8 0,.int .u8 0,.int .u8 0,.int .u8 0,.int .u8 0,.int .u8 0,.int .u8 0,.int .u8 0,.int .u8 0,.int .u8 0,.int .u8 0,.int .u8 0,.int .u8 0,.int .u8 0,.int .u8 0,.int .u8 0,.int .u8 0,.int .u8 0,.int .u8 0,.int .u8 0,.int .u8 0,.int .u8 0,.int .u8 0,.int .u8 0,.int .u8 0,.int .u8 0,.int .u8 0,.int .u8 0,.int .u8 0,.int .u8 0,.int .u8 0,.int .u8 0,.int .u8 0,.int .u8 0,.int .u8 0,.int .u8 0,.int .u8 0,.int .u8 0,.int .u8 0,.int .u8 0,.int .u8 0,.int .u8 0,.int .u8 0,.int .u8 0,.int .u8 0,.int .u8 0,.int .u8 0,.int .u8 0,.int .u8 0],false⟩:=⟨by kernel_rfl,by kernel_rfl,by kernel_rfl,fun h=>by cases h⟩
theorem tok:lC Tryz.prog tab:=by
 intro t τ h
 unfold tab at h
 split at h
 ·cases h;exact ZO
 ·cases h;exact ZP
 ·cases h;exact ZQ
 ·cases h;exact ZR
 ·cases h;exact ZS
 ·cases h;exact Yz
 ·cases h;exact YA
 ·cases h;exact YB
 ·cases h;exact YC
 ·cases h;exact YD
 ·cases h;exact YE
 ·cases h;exact YF
 ·cases h;exact YG
 ·cases h;exact YH
 ·cases h;exact YI
 ·cases h;exact YJ
 ·cases h;exact YK
 ·cases h;exact YL
 ·cases h;exact YM
 ·cases h;exact YN
 ·cases h;exact YO
 ·cases h;exact YP
 ·cases h;exact YQ
 ·cases h;exact YR
 ·cases h;exact YS
 ·cases h;exact YT
 ·cases h;exact YU
 ·cases h;exact YV
 ·cases h;exact YW
 ·cases h;exact YX
 ·cases h;exact YY
 ·cases h;exact YZ
 ·cases h;exact Y0
 ·cases h;exact Y1
 ·cases h;exact WH
 ·cases h;exact Y2
 ·cases h;exact Y3
 ·cases h;exact Xp
 ·cases h;exact Xq
 ·cases h;exact Xr
 ·cases h;exact Xs
 ·cases h;exact Xt
 ·cases h;exact Xu
 ·cases h;exact Xv
 ·cases h;exact Xw
 ·cases h;exact Xx
 ·cases h;exact Xy
 ·cases h;exact Xz
 ·cases h;exact XA
 ·cases h;exact XB
 ·cases h;exact XC
 ·cases h
theorem mixed:Tryz.prog.follows .mixedOrders=true:=by kernel_rfl
def tX {α:Type} (x:Option α) (K:α→Prop):Prop :=
 match x with
 | some a=>K a
 | none=>False
def br (b:Bool) (A B:Prop):Prop:=(b=true→A)∧(b=false→B)
def N3 (d:D) (t:Nat→D) (g:Nat) (A B:(Nat→D)→Prop):Prop :=
 match d with
 | .bool b=>br b (A (er t g (.bool b))) (B (er t g (.bool b)))
 | _=>False
def wpS (d:D) (t:Nat→D) (g:Nat) (A B S:(Nat→D)→Prop):Prop :=
 match d with
 | .skp=>S t
 | d=>N3 d t g A B
theorem yp {t:Nat→D} {g:Nat} {b:Bool} {A B S:(Nat→D)→Prop} : wpS (.bool b) t g A B S=br b (A (er t g (.bool b))) (B (er t g (.bool b))):=rfl
def UL (ops:List Oper) (t:Nat→D) (gd:Option (Nat×Bool)) (A B:(Nat→D)→Prop):Prop :=
 match gd with
 | none=>A t
 | some (j,want)=>tX ((ops[j]?).bind (·.dst)) fun g=>wpS (t g) t g (if want then A else B) (if want then B else A) B
def UJ (T:Nat→Option Ty) (Γ:Env) (e:Nat) (o:Oper) (t:Nat→D) (h:Nat→Option Row) (K:(Nat→D)→dS→Prop):Prop :=
 match o.op with
 | .pick (.tmp c) a b=>N3 (t c) t c (fun t=>K t ⟨ev t a,[]⟩) (fun t=>K t ⟨ev t b,[]⟩)
 | _=>tX (l4 T Γ e o (ev t) h) (K t)
def Du (T:Nat→Option Ty) (Γ:Env) (N e:Nat) (ops:List Oper):List Oper→(Nat→D)→(Nat→Option Row)→((Nat→D)→(Nat→Option Row)→Prop)→Prop
 | [],t,h,K=>K t h
 | o::l,t,h,K=>fits N o.dst=true∧UL ops t o.guard (fun t=>UJ T Γ e o t h fun t E=>Du T Γ N e ops l (eR t o.dst E.val) (bm h E.hw) K) (fun t=>Du T Γ N e ops l (eR t o.dst .skp) h K)
def runK (T:Nat→Option Ty) (Γ:Env) (N e:Nat) (ops:List Oper):List Oper→(Nat→D)→(Nat→Option Row)→List kI→((Nat→D)→(Nat→Option Row)→List kI→Prop)→Prop
 | [],t,h,fs,K=>K t h fs
 | o::l,t,h,fs,K=>fits N o.dst=true∧UL ops t o.guard (fun t=>UJ T Γ e o t h fun t E=>runK T Γ N e ops l (eR t o.dst E.val) (bm h E.hw) (fs++[⟨bW o (ev t),E.hw.isEmpty⟩]) K) (fun t=>runK T Γ N e ops l (eR t o.dst .skp) h (fs++[⟨[],true⟩]) K)
abbrev Kt:=Ex→(Nat→D)→(Nat→Option Row)→Nat→Prop
def Yv (x:Ex) (A:Prop) (B:Prop):Prop :=
 match x with
 | .normal=>A
 | _=>B
def Sa (id:Nat) (x:Ex) (t:Nat→D) (h:Nat→Option Row) (e:Nat) (K:Kt):Prop :=
 match x with
 | .exit n=>if n=id then K .normal t h e else K (.exit n) t h e
 | x=>K x t h e
def Zi (T:Nat→Option Ty) (Γ:Env) (N:Nat) (ops:Array Oper) (draw:Bool) (t:Nat→D) (h:Nat→Option Row) (e:Nat) (K:(Nat→D)→(Nat→Option Row)→Prop):Prop :=
 match draw with
 | true=>runK T Γ N e ops.toList ops.toList t h [] fun t h fs=>B3 ops fs=true∧K t h
 | false=>Du T Γ N e ops.toList ops.toList t h K
def L8 (T:Nat→Option Ty) (Γ:Env) (N F:Nat):Code→(Nat→D)→(Nat→Option Row)→Nat→Kt→Prop
 | .skip,t,h,e,K=>K .normal t h e
 | .region _ ops draw,t,h,e,K=>Zi T Γ N ops draw t h e fun t h=>K .normal t h (e+1)
 | .seq a b,t,h,e,K=>L8 T Γ N F a t h e fun x t h e=>Yv x (L8 T Γ N F b t h e K) (K x t h e)
 | .cond c x y,t,h,e,K =>
  match c with
  | .tmp g=>N3 (t g) t g (fun t=>L8 T Γ N F x t h e K) (fun t=>L8 T Γ N F y t h e K)
  | .const (.bool true)=>L8 T Γ N F x t h e K
  | .const (.bool false)=>L8 T Γ N F y t h e K
  | _=>False
 | .block id b,t,h,e,K=>L8 T Γ N F b t h e fun x t h e=>Sa id x t h e K
 | .loop b,t,h,e,K=>∃x s,iter (ik T Γ N F b) F ⟨t,h,e⟩=some (x,s)∧K x s.t s.h s.e
 | .exit id,t,h,e,K=>K (.exit id) t h e
 | .ret,t,h,e,K=>K .ret t h e
 | _,_,_,_,_=>False
def W0 (mode:Mode) (T:Nat→Option Ty) (lent:Option (D×Row)) (rs:List ResultVar) (x:Ex) (t:Nat→D) (h:Nat→Option Row) (e:Nat) (r:RK×Option Row):Prop :=
 match x with
 | .exit _=>False
 | _=>gW mode T lent rs ⟨t,h,e⟩=some r
def ZT (mode:Mode) (T:Nat→Option Ty) (Γ:Env) (F:Nat) (fn:Func) (lent:Option (D×Row)) (args:List D) (r:RK×Option Row):Prop :=
 tX fn.body fun c=>L8 T Γ fn.ntmps F c (eP lent args).t (eP lent args).h (eP lent args).e fun x t h e=>W0 mode T lent fn.results.toList x t h e r
theorem rM {α:Type} (a:α) (K:α→Prop):tX (some a) K=K a:=rfl
theorem CT {α:Type} {x:Option α} {K:α→Prop} (h:tX x K):∃a,x=some a∧K a:=by
 cases x with
 | none=>exact h.elim
 | some a=>exact⟨a,rfl,h⟩
theorem NX {t:Nat→D} {g:Nat} {d:D} (h:t g=d):er t g d=t:=by
 funext j
 unfold er
 split
 ·rename_i e;subst e;exact h.symm
 ·rfl
theorem G1 (A B:Prop):br true A B=A:=by simp[br]
theorem Bz (A B:Prop):br false A B=B:=by simp[br]
theorem U5 {b:Bool} {A B:Prop} (h:br b A B):if b then A else B:=by
 cases b with
 | true=>exact h.1 rfl
 | false=>exact h.2 rfl
theorem UI {t:Nat→D} {g:Nat} {b:Bool} {A B:(Nat→D)→Prop} : N3 (.bool b) t g A B=br b (A (er t g (.bool b))) (B (er t g (.bool b))):=rfl
theorem yn {t:Nat→D} {g:Nat} {A B:(Nat→D)→Prop} (h:t g=.bool true):N3 (.bool true) t g A B=A t:=by simp[N3,NX h,G1]
theorem vw {t:Nat→D} {g:Nat} {A B:(Nat→D)→Prop} (h:t g=.bool false):N3 (.bool false) t g A B=B t:=by simp[N3,NX h,Bz]
theorem yq {t:Nat→D} {g:Nat} {A B S:(Nat→D)→Prop} (h:t g=.bool true):wpS (.bool true) t g A B S=A t:=yn h
theorem vx {t:Nat→D} {g:Nat} {A B S:(Nat→D)→Prop} (h:t g=.bool false):wpS (.bool false) t g A B S=B t:=vw h
theorem N4 {t:Nat→D} {g:Nat} {A B:(Nat→D)→Prop} (h:N3 (t g) t g A B):∃b,t g=.bool b∧(if b then A t else B t):=by
 unfold N3 at h
 split at h
 ·rename_i b hb
  rw[NX hb]at h
  exact⟨b,hb,U5 h⟩
 ·exact h.elim
section
variable {T:Nat→Option Ty} {Γ:Env} {N F e:Nat}
theorem UM {ops:Array Oper} {t:Nat→D} {o:Oper} {A B:(Nat→D)→Prop} (h:UL ops.toList t o.guard A B):∃b,tP ops t o=some b∧(if b then A t else B t):=by
 unfold UL at h
 unfold tP
 split at h
 ·rename_i hg
  try rw[hg]
  exact⟨true,rfl,by simpa using h⟩
 ·rename_i j want hg
  try rw[hg]
  obtain⟨g,h1,h2⟩:=CT h
  rw[Array.getElem?_toList]at h1
  unfold wpS at h2
  split at h2
  ·rename_i hs
   simp only[h1,hs]
   exact⟨false,rfl,h2⟩
  ·obtain⟨b,h3,h4⟩:=N4 h2
   simp only[h1,h3]
   refine⟨_,rfl,?_⟩
   cases b<;>cases want<;>simpa using h4
theorem UK {o:Oper} {t:Nat→D} {h:Nat→Option Row} {K:(Nat→D)→dS→Prop} (hw:UJ T Γ e o t h K):∃E,l4 T Γ e o (ev t) h=some E∧K t E:=by
 unfold UJ at hw
 split at hw
 ·rename_i c a b ho
  obtain⟨v,h1,h2⟩:=N4 hw
  cases v with
  | true=>exact⟨⟨ev t a,[]⟩,by unfold l4;rw[ho];simp only[ev,h1],by simpa only[if_true] using h2⟩
  | false=>exact⟨⟨ev t b,[]⟩,by unfold l4;rw[ho];simp only[ev,h1],by simpa only[Bool.false_eq_true,if_false] using h2⟩
 ·obtain⟨E,h1,h2⟩:=CT hw
  exact⟨E,h1,h2⟩
theorem Ib {ops:Array Oper} {K:(Nat→D)→(Nat→Option Row)→Prop} : ∀(l:List Oper) (t:Nat→D) (h:Nat→Option Row),Du T Γ N e ops.toList l t h K→∃t' h' fs,AV T Γ N e ops l t h=some (t',h',fs)∧K t' h'
 | [],t,h,hk=>⟨t,h,[],rfl,hk⟩
 | o::l,t,h,hk=>by
  unfold Du at hk
  obtain⟨hf,hg⟩:=hk
  obtain⟨b,h1,h2⟩:=UM hg
  unfold AV step1
  rw[if_pos hf,h1]
  cases b with
  | true =>
   obtain⟨E,h3,h4⟩:=UK (by simpa using h2)
   obtain⟨t',h',fs,h5,h6⟩:=Ib l _ _ h4
   simp only[h3,h5]
   exact⟨_,_,_,rfl,h6⟩
  | false =>
   obtain⟨t',h',fs,h5,h6⟩:=Ib l _ _ (by simpa using h2)
   simp only[h5]
   exact⟨_,_,_,rfl,h6⟩
theorem Ia {ops:Array Oper} {K:(Nat→D)→(Nat→Option Row)→List kI→Prop} : ∀(l:List Oper) (t:Nat→D) (h:Nat→Option Row) (f0:List kI),runK T Γ N e ops.toList l t h f0 K→∃t' h' fs,AV T Γ N e ops l t h=some (t',h',fs)∧K t' h' (f0++fs)
 | [],t,h,f0,hk=>⟨t,h,[],rfl,by unfold runK at hk;simpa using hk⟩
 | o::l,t,h,f0,hk=>by
  unfold runK at hk
  obtain⟨hf,hg⟩:=hk
  obtain⟨b,h1,h2⟩:=UM hg
  unfold AV step1
  rw[if_pos hf,h1]
  cases b with
  | true =>
   obtain⟨E,h3,h4⟩:=UK (by simpa using h2)
   obtain⟨t',h',fs,h5,h6⟩:=Ia l _ _ _ h4
   simp only[h3,h5]
   exact⟨_,_,_,rfl,by simpa using h6⟩
  | false =>
   obtain⟨t',h',fs,h5,h6⟩:=Ia l _ _ _ (by simpa using h2)
   simp only[h5]
   exact⟨_,_,_,rfl,by simpa using h6⟩
theorem XE {ops:Array Oper} {draw:Bool} {t:Nat→D} {h:Nat→Option Row} {K:(Nat→D)→(Nat→Option Row)→Prop} (hk:Zi T Γ N ops draw t h e K):∃t' h',vu T Γ N ops draw ⟨t,h,e⟩=some (.normal,⟨t',h',e+1⟩)∧K t' h':=by
 unfold vu
 cases draw with
 | false =>
  obtain⟨t',h',fs,h1,h2⟩:=Ib _ _ _ hk
  simp only[h1]
  exact⟨t',h',by simp,h2⟩
 | true =>
  obtain⟨t',h',fs,h1,h2,h3⟩:=Ia _ _ _ _ hk
  simp only[h1]
  exact⟨t',h',by rw[List.nil_append]at h2;simp[h2],h3⟩
theorem UO:∀(c:Code) (t:Nat→D) (h:Nat→Option Row) (e:Nat) (K:Kt),L8 T Γ N F c t h e K→∃x s,ik T Γ N F c ⟨t,h,e⟩=some (x,s)∧K x s.t s.h s.e:=by
 intro c
 induction c with
 | skip=>intro t h e K hk;exact⟨_,_,rfl,hk⟩
 | region i ops draw =>
  intro t h e K hk
  obtain⟨t',h',h1,h2⟩:=XE hk
  exact⟨_,_,h1,h2⟩
 | seq a b iha ihb =>
  intro t h e K hk
  obtain⟨x,s,h1,h2⟩:=iha _ _ _ _ hk
  simp only[ik,h1]
  cases x with
  | normal =>
   obtain⟨x2,s2,h3,h4⟩:=ihb _ _ _ _ h2
   exact⟨x2,s2,h3,h4⟩
  | exit n=>exact⟨_,_,rfl,h2⟩
  | ret=>exact⟨_,_,rfl,h2⟩
 | cond c x y ihx ihy =>
  intro t h e K hk
  unfold L8 at hk
  split at hk
  ·rename_i g
   obtain⟨b,h1,h2⟩:=N4 hk
   simp only[ik,ev,h1,L3]
   cases b with
   | true=>exact ihx _ _ _ _ (by simpa using h2)
   | false=>exact ihy _ _ _ _ (by simpa using h2)
  ·simpa only[ik,ev,qt,L3,if_true] using ihx _ _ _ _ hk
  ·simpa only[ik,ev,qt,L3,Bool.false_eq_true,if_false] using ihy _ _ _ _ hk
  ·exact hk.elim
 | block id b ih =>
  intro t h e K hk
  obtain⟨x,s,h1,h2⟩:=ih _ _ _ _ hk
  simp only[ik,h1]
  cases x with
  | normal=>exact⟨_,_,rfl,h2⟩
  | ret=>exact⟨_,_,rfl,h2⟩
  | exit n =>
   simp only[N0]
   unfold Sa at h2
   simp only at h2
   split at h2
   ·rename_i hn;rw[if_pos hn];exact⟨_,_,rfl,h2⟩
   ·rename_i hn;rw[if_neg hn];exact⟨_,_,rfl,h2⟩
 | loop b ih=>intro t h e K hk;exact hk
 | exit id=>intro t h e K hk;exact⟨_,_,rfl,hk⟩
 | ret=>intro t h e K hk;exact⟨_,_,rfl,hk⟩
 | _=>intro t h e K hk;exact hk.elim
theorem UP {mode:Mode} {fn:Func} {lent:Option (D×Row)} {args:List D} {r:RK×Option Row} (h:ZT mode T Γ F fn lent args r) (hN:fn.ntmps≤PK):aQ mode T Γ F fn lent args=some r:=by
 obtain⟨c,h1,h2⟩:=CT h
 obtain⟨x,s,h3,h4⟩:=UO _ _ _ _ _ h2
 unfold aQ
 simp only[h1]
 rw[if_pos hN]
 have e0:eP lent args=⟨(eP lent args).t,(eP lent args).h,(eP lent args).e⟩:=rfl
 rw[e0,h3]
 unfold W0 at h4
 split at h4
 ·exact h4.elim
 ·rename_i hx
  split
  ·rename_i n _ he;cases he;exact (hx n rfl).elim
  ·rename_i _ x' s' _ he
   cases he
   exact h4
  ·rename_i he;cases he
theorem P5 {α:Type} (f:Nat→α) (i:Nat) (v:α) (j:Nat):er f i v j=if j=i then v else f j:=Eq.trans rfl rfl
def Mi (args:List D) (i:Nat):D:=args.getD i .und
theorem IA (i:Nat):Mi [] i=.und:=by simp[Mi]
theorem EP (d:D) (l:List D):Mi (d::l) 0=d:=Eq.trans rfl rfl
theorem EO (d:D) (l:List D) (i:Nat):Mi (d::l) (i+1)=Mi l i:=Eq.trans rfl rfl
def Ww (_:Nat):Option Row:=none
theorem Gb (i:Nat):Ww i=none:=Eq.trans rfl rfl
end
end Go.Proofs.YtpkahnkoecbndaaGreatDoor.Am
