/- Part of a proof. -/
import Derived.Test.YtchndpjlijbplaaIa
set_option linter.unusedSimpArgs false
set_option linter.unusedVariables false
noncomputable section
namespace Go.Proofs.Ytchndpjlijbplaa.Am
open Go.RowKit
section
variable {P:Program} {T:Nat->Option Ty} {N:Nat} {M:Nat->Prop} {L:ky} {w0:World} {blk:Nat->Option (Nat×Nat)} {V:Nat->Nat->Prop} {t:Nat->D} {h:Nat->Option Row} {a:Act} {w:World} {e:Nat} {o:Oper} {Γ:Env}
theorem Z8 (hT:kq P T) {ft:Nat} {φ:Ty} (hφ:T ft=some φ) (hs:kM φ.ds=true) {x y:D} {u v:Value} {b:Bool} {M':Nat->Prop} (hx:RP w M' x u) (hy:RP w M' y v) (hb:Qd x y=some b) (n:Nat) :
  (∃d,P.underlying ft=some d)∧((∃k,φ.ds=.int k∧∃k' i j,x=.int k' i∧y=.int k' j)∨(φ.ds=.bool∧∃i j,x=.bool i∧y=.bool j)∨(φ.ds=.str∧∃i j,x=.str i∧y=.str j)->(Op.equalIn (n+1) ft u v).run P w=.ok b w):=by
 obtain⟨d,hd,hc⟩:=under hT hφ
 refine⟨⟨d,hd⟩,?_⟩
 rintro (⟨k,hk,k',i,j,rfl,rfl⟩|⟨hk,i,j,rfl,rfl⟩|⟨hk,i,j,rfl,rfl⟩)
 ·rw[hk]at hc
  have:=xX hc
  subst this
  cases hx;cases hy
  simp only[Qd,if_true,aeX]at hb
  subst hb
  simp[Op.equalIn,run_underlying hd]
 ·rw[hk]at hc
  have:=vu hc
  subst this
  cases hx;cases hy
  simp only[Qd,aeX]at hb
  subst hb
  simp[Op.equalIn,run_underlying hd]
 ·rw[hk]at hc
  have:=qW hc
  subst this
  cases hx;cases hy
  simp only[Qd,aeX]at hb
  subst hb
  simp[Op.equalIn,run_underlying hd]
theorem UK {x y:D} {b:Bool} {s:Ds} (hb:Qd x y=some b) (hk:kindOk s x=true) :
  (∃k,s=.int k∧∃k' i j,x=.int k' i∧y=.int k' j)∨(s=.bool∧∃i j,x=.bool i∧y=.bool j)∨(s=.str∧∃i j,x=.str i∧y=.str j):=by
 cases x<;>cases y<;>simp only[Qd]at hb<;>try (cases hb;done)
 ·rename_i k i k' j
  split at hb
  ·rename_i he
   subst he
   cases s<;>simp[kindOk]at hk
   exact .inl ⟨_,rfl,_,_,_,rfl,rfl⟩
  ·cases hb
 ·cases s<;>simp[kindOk]at hk
  exact .inr (.inl ⟨rfl,_,_,rfl,rfl⟩)
 ·cases s<;>simp[kindOk]at hk
  exact .inr (.inr ⟨rfl,_,_,rfl,rfl⟩)
theorem Jn (hI:Inv N M L w0 blk V t h a w) {x:Operand} {i:Nat} {xs:List D} {d:D} (ho:o.op=.extract x i) (hx:ev t x=.tup xs) (hd:xs[i]? = some d):eK P o a w (aZ N M L w0 V t h a e o.dst ⟨d,[]⟩):=by
 have hp:=hI.ev x
 rw[hx]at hp
 have hp':RP w (Own M h blk) (.tup xs) (a.eval x):=hp
 generalize hu:a.eval x=u at *
 cases hp' with
 | tup xs us h1 h2 =>
  have hlt:=(afh.1 hd).1
  refine aE (v:=us.getD i undef) (w':=w) ?_ (aZ.dA hI (bD (h2 i d hd)))
  have hget:us[i]? = some (us.getD i undef):=by simp[List.getD,ae1 (show i<us.length by omega)]
  generalize us.getD i undef=v at *
  simp[execOp,ho,Instr.extract,hu,hget]
theorem Jm (hT:kq P T) (hI:Inv N M L w0 blk V t h a w) {x:Operand} {src ty:Nat} {τ σ:Ty} {k k':IntKind} {n:Int} (ho:o.op=.convert src ty x) (hτ:T ty=some τ) (hσ:T src=some σ) (hds:τ.ds=.int k') (hx:ev t x=.int k n) :
  eK P o a w (aZ N M L w0 V t h a e o.dst ⟨.int k' (k'.wrap n),[]⟩):=by
 have hp:=hI.ev x
 rw[hx]at hp
 have hu:=k9 hp
 obtain⟨d,hd,hc⟩:=under hT hτ
 obtain⟨d2,hd2,_⟩:=under hT hσ
 rw[hds]at hc
 have:=xX hc
 subst this
 refine aE (v := .int k' (k'.wrap n)) (w':=w) ?_ (aZ.dA hI (bD (.int _ _)))
 have:=run_convert_int (P:=P) (w:=w) src ty k n (by simp[hd2])
 simp[execOp,ho,hu,convert,run_underlying hd,run_underlying hd2,Conv.intToInt]
theorem UD (hI:Inv N M L w0 blk V t h a w) {x:Operand} {op:UnOp} {ty:Nat} {d:D} (ho:o.op=.unOp op ty x) (hd:F3 op (ev t x)=some d):eK P o a w (aZ N M L w0 V t h a e o.dst ⟨d,[]⟩):=by
 have hp:=hI.ev x
 generalize ev t x=q at *
 cases q with
 | int k n =>
  have hu:=k9 hp
  cases op<;>simp only[F3,aeX]at hd<;>try (cases hd;done)
  all_goals
   subst hd
   refine aE (w':=w) ?_ (aZ.dA hI (bD (.int _ _)))
   simp[execOp,ho,hu,Op.unary,Op.intArith,Op.intBits,Cx]
 | bool b =>
  have hu:=vl hp
  cases op<;>simp only[F3,aeX]at hd<;>try (cases hd;done)
  all_goals
   subst hd
   refine aE (w':=w) ?_ (aZ.dA hI (bD (.bool _)))
   simp[execOp,ho,hu,Op.unary]
 | _=>simp[F3]at hd
theorem vA:∀ {xs:List D},pC xs=true->∀x∈xs,gu x=true
 | [],_,x,hx=>by simp at hx
 | y::ys,h,x,hx=>by
  simp only[pC,afp]at h
  rcases aeV.1 hx with rfl|hx
  ·exact h.1
  ·exact vA h.2 x hx
theorem RP.flat {M1 M2:Nat->Prop} {d:D} {u:Value} (hr:RP w M1 d u) (hf:gu d=true):RP w M2 d u:=by
 induction hr with
 | int k n=>exact .int k n
 | bool b=>exact .bool b
 | str s=>exact .str s
 | sl A c nl tight n xs us h1 h2 h3 h4 h5 h6 h7 h8 ih=>simp[gu]at hf
 | agg xs us h1 h2 h3 ih =>
  simp only[gu]at hf
  exact .agg xs us h1 (fun j x hj=>ih j x hj (vA hf x (afg hj))) h3
 | tup xs us h1 h2 ih =>
  simp only[gu]at hf
  exact .tup xs us h1 (fun j x hj=>ih j x hj (vA hf x (afg hj)))
 | ip xs ad us h6 h7 h8 ih=>simp[gu]at hf
 | fn f=>exact .fn f
 | ali x v s o n u h1=>simp[gu]at hf
 | mpc ks vs mb us h1 h2 h3 h4 ih=>simp[gu]at hf
 | alm x v u h1=>simp[gu]at hf
 | clo f kk xs us h1 h2 ih=>simp[gu]at hf
theorem xA {h:Nat->Option Row} {blk:Nat->Option (Nat×Nat)} {old:Option Nat} {b:Nat} (hb:Own M (forget h old) blk b):Own M h blk b:=by
 rcases hb with hb|⟨x,r,g,hx,hz,hg,he⟩
 ·exact .inl hb
 ·refine .inr ⟨x,r,g,?_,hz,hg,he⟩
  cases old with
  | none=>exact hx
  | some y =>
   simp only[forget]at hx
   by_cases hxy:x=y
   ·subst hxy;simp[b8]at hx
   ·rwa [aC _ _ hxy]at hx
theorem Inv.fresh (hI:Inv N M L w0 blk V t h a w) {w':World} {v:Value} {d ty s n:Nat} {cells:List D} {old dst:Option Nat} (hd:dst=some d) (hV:kp N V d e)
  (hb:dp (fun b=>∃y g,old=some y∧blk y=some g∧b=g.1) w w') (hold:∀y,old=some y->∃r,h y=some r∧r.fz=false)
  (hg:(∃(g:Nat×Nat) (c:Nat) (cs:Array Value),v=.slice (some ⟨g.1,g.2,none⟩) n c∧(w.heap.size<=g.1∨∃y g0,old=some y∧blk y=some g0∧g.1=g0.1)∧w'.heap[g.1]? = some (.cells cs ty (0,0))∧n<=c∧c<=maxLen∧c*s+g.2=cs.size∧g.2+cells.length<=cs.size ∧
   ∀(j:Nat) d,cells[j]? = some d->aU d=true∧RP w' (fun b=>Own M (forget h old) blk b∨b=g.1) d (cs.getD (g.2+j) undef))∨(n=0∧cells=[]∧∃A,v=.slice A 0 0)) :
  ∃blk',Inv N M L w0 blk' (fun x k=>V x k∨(dst=some x∧k=e)) t (b8 (forget h old) d (some ⟨e,ty,cells,false,true,false⟩)) a w' ∧
   RT w' (Own M (b8 (forget h old) d (some ⟨e,ty,cells,false,true,false⟩)) blk') (b8 (forget h old) d (some ⟨e,ty,cells,false,true,false⟩)) blk' (fun x k=>V x k∨(dst=some x∧k=e)) (.buf d e s 0 n) v:=by
 have hW:∀ {blk':Nat->Option (Nat×Nat)},Inv N M L w0 blk' (fun x k=>V x k∨(x=d∧k=e)) t (b8 (forget h old) d (some ⟨e,ty,cells,false,true,false⟩)) a w'->Inv N M L w0 blk' (fun x k=>V x k∨(dst=some x∧k=e)) t (b8 (forget h old) d (some ⟨e,ty,cells,false,true,false⟩)) a w':=fun hJ=>hJ.weaken fun x k hx=>by
  rcases hx with hx|⟨rfl,rfl⟩
  ·exact .inl hx
  ·exact .inr ⟨hd,rfl⟩
 rcases hg with⟨g,c,cs,rfl,g1,g2,g3,g4,g5,g6,g7⟩|⟨rfl,rfl,A,rfl⟩
 ·refine⟨b8 blk d (some g),hW (hI.PM (old:=old) hb.os hb.tape hb.output hb.size (fun k hk hn=>hb.block k hk (fun⟨y,g0,h1,h2,h3⟩=>hn y g0 h1 h2 h3)) hold rfl hV ⟨g1,cs,g2,g6,g7⟩),?_⟩
  exact rO (.inr ⟨hd,rfl⟩) (ay _ _ _) g2 g3 g4 g5
 ·refine⟨b8 blk d none,hW (hI.PM (go:=none) (old:=old) hb.os hb.tape hb.output hb.size (fun k hk hn=>hb.block k hk (fun⟨y,g0,h1,h2,h3⟩=>hn y g0 h1 h2 h3)) hold rfl hV rfl),?_⟩
  exact⟨.inr ⟨hd,rfl⟩,fun _ _ _ =>.inr ⟨ay _ _ _,rfl,A,rfl⟩⟩
theorem RP.less {M1 M2:Nat->Prop} {d:D} {u:Value} (hr:RP w M1 d u) (hm:∀b,M2 b->M1 b):RP w M2 d u:=hr.keep fun _ h1 h2=>⟨h1,fun hb=>h2 (hm _ hb),rfl⟩
theorem Inv.Ct (hI:Inv N M L w0 blk V t h a w) {ds aeJ:List D} {fr:List Nat} {vs:Array Value} {M':Nat->Prop} (hca:Am.bk h ds=some (aeJ,fr)) (hl:ot M h blk fr M') (hsz:vs.size=ds.length)
  (hr:∀(j:Nat) d,ds[j]? = some d->RT w (Own M h blk) h blk V d (vs.getD j undef)):Av w M' aeJ vs:=by
 obtain⟨i1,i2⟩:=hI.bk (us:=vs.toList) hca hl (by simpa using hsz) (fun j d hj=>by have:=hr j d hj;simpa [List.getD] using this)
 refine⟨by simpa using i1,fun j d hj =>?_,fun b hb=>(hI.tab b hb).less hl.le⟩
 have:=i2 j d hj
 simpa [List.getD] using this
theorem Lc (hΓ:bq P Γ) (hI:Inv N M L w0 blk V t h a w) {g:Nat} {dst:Option Nat} {E:bM} {ds:List D} {vs:Array Value} (hE:tY Γ h e dst g ds=some E) (hV:∀d,dst=some d->kp N V d e) (hsz:vs.size=ds.length)
  (hr:∀(j:Nat) d,ds[j]? = some d->RT w (Own M h blk) h blk V d (vs.getD j undef)):dx P g∧Calls P g vs w fun e' w'=>∃v,e'=.returned v∧aZ N M L w0 V t h a e dst E v w':=by
 unfold tY at hE
 split at hE
 ·rename_i aeJ fr hca
  split at hE
  ·rename_i r out hs
   simp only[aeX]at hE
   subst hE
   obtain⟨hcalls,hcl⟩:=hΓ.calls g none aeJ _ _ hs
   refine⟨hcl,?_⟩
   by_cases hflat:gu r=true
   ·refine (hcalls w _ vs (fun b hb=>hI.xB hb.1) (hI.Ct hca (hI.HD fr) hsz hr)).mono fun e' w' hg =>?_
    obtain⟨v,he,hb,hv⟩:=hg
    refine⟨v,he,?_⟩
    rw[if_pos hflat]
    exact aZ.dA (hI.Xx hb) (bD (RP.flat hv hflat))
   ·have hIf:=hI.freeze fr
    refine (hcalls w _ vs (fun b hb=>hIf.xB hb) (hI.Ct hca (hI.eX fr) hsz hr)).mono fun e' w' hg =>?_
    obtain⟨v,he,hb,hv⟩:=hg
    refine⟨v,he,?_⟩
    rw[if_neg hflat]
    exact⟨blk,(hIf.Xx hb).weaken fun _ _ h =>.inl h,bD hv⟩
  ·rename_i ty s n cells out hs
   split at hE
   ·rename_i d
    split at hE
    ·rename_i hfr
     simp only[aeX]at hE
     subst hE
     obtain⟨hcalls,hcl⟩:=hΓ.calls g none aeJ _ _ hs
     refine⟨hcl,?_⟩
     by_cases hflat:pC cells=true
     ·refine (hcalls w _ vs (fun b hb=>hI.xB hb.1) (hI.Ct hca (hI.HD fr) hsz hr)).mono fun e' w' hg =>?_
      obtain⟨v,he,hb,hv⟩:=hg
      refine⟨v,he,?_⟩
      rw[if_pos hflat]
      exact hI.fresh (old:=none) rfl (hV d rfl) (dp.rm hb) (fun y hy=>by cases hy) (by
       rcases hv with⟨g,c,cs,h1,h2,h3,h4,h5,h6,h7,h8⟩|hv
       ·exact .inl ⟨g,c,cs,h1,.inl (h2.resolve_right id),h3,h4,h5,h6,h7,fun j x hj=>⟨(h8 j x hj).1,(h8 j x hj).2.flat (vA hflat x (afg hj))⟩⟩
       ·exact .inr hv)
     ·have hIf:=hI.freeze fr
      refine (hcalls w _ vs (fun b hb=>hIf.xB hb) (hI.Ct hca (hI.eX fr) hsz hr)).mono fun e' w' hg =>?_
      obtain⟨v,he,hb,hv⟩:=hg
      refine⟨v,he,?_⟩
      rw[if_neg hflat]
      have:=hIf.fresh (e:=e) (ty:=ty) (s:=s) (cells:=cells) (n:=n) (v:=v) (old:=none) (dst:=some d) rfl (hV d rfl) (dp.rm hb) (fun y hy=>by cases hy) (by
       rcases hv with⟨g,c,cs,h1,h2,h3,h4,h5,h6,h7,h8⟩|hv
       ·exact .inl ⟨g,c,cs,h1,.inl (h2.resolve_right id),h3,h4,h5,h6,h7,h8⟩
       ·exact .inr hv)
      unfold aZ
      rw[fT]
      exact this
    ·cases hE
   ·cases hE
  ·cases hE
 ·cases hE
theorem Inv.aaV (hI:Inv N M L w0 blk V t h a w) {x v:Nat} {r:Row} (hl:live h x v=some r) {u:Value} : (∀s o n,RT w (Own M h blk) h blk V (.buf x v s o n) u->Ci w (blk x) (.buf 0 0 s o n) u)∧(∀o,RT w (Own M h blk) h blk V (.ptr x v o) u->Ci w (blk x) (.ptr 0 0 o) u):=by
 obtain⟨hx,hv⟩:=bS hl
 exact⟨fun s o n hr=>⟨trivial,fun r' _ _=>hr.2 r hx hv⟩,fun o hr=>⟨trivial,fun r' _ _=>hr.2 r hx hv⟩⟩
theorem Lg (hΓ : bq P Γ) (hI : Inv N M L w0 blk V t h a w) {g x v : Nat} {d0 : D} {dst : Option Nat} {E : bM} {ds : List D} {u0 : Value} {vs : Array Value} (hE : s8 Γ h e dst g x v d0 ds = some E) (hV : ∀ d, dst = some d -> kp N V d e) (hVx : V x v)
    (h0 : ∀ r, live h x v = some r -> Ci w (blk x) d0 u0) (hsz : vs.size = ds.length) (hr : ∀ (j : Nat) d, ds[j]? = some d -> RT w (Own M h blk) h blk V d (vs.getD j undef)) :
    dx P g ∧ Calls P g (#[u0] ++ vs) w fun e' w' => ∃ v, e' = .returned v ∧ aZ N M L w0 V t h a e dst E v w' := by
  unfold s8 at hE
  split at hE
  · rename_i r hl
    obtain ⟨hx, hv⟩ := bS hl
    split at hE
    · rename_i hz
      split at hE
      · rename_i aeJ fr hca
        split at hE
        · rename_i hfr
          have hIf := hI.freeze fr
          have hxf : aH h (iX h fr) x = some r := by rw [zQ hfr]; exact hx
          have hgo : ∀ b, tz (blk x) b -> Own M (aH h (iX h fr)) blk b := fun b ⟨g0, hg0, he⟩ => .inr ⟨x, r, g0, hxf, hz, hg0, he.symm⟩
          have hle : ∀ b, ((Own M (aH h (iX h fr)) blk b ∧ ¬ tz (blk x) b) ∨ tz (blk x) b) -> Own M (aH h (iX h fr)) blk b := fun b hb => hb.elim (·.1) (hgo b)
          have hargs := hI.Ct hca (hI.eX fr) hsz hr
          have hargs' : Av w (fun b => (Own M (aH h (iX h fr)) blk b ∧ ¬ tz (blk x) b) ∨ tz (blk x) b) aeJ vs := ⟨hargs.1, fun j d hj => (hargs.2 j d hj).less hle, fun b hb => (hargs.tab b hb).less hle⟩
          have hrow : RZ w (fun b => (Own M (aH h (iX h fr)) blk b ∧ ¬ tz (blk x) b) ∨ tz (blk x) b) (blk x) { r with v := 0 } := by
            have := (hIf.rows x r hxf).2
            cases hg : blk x with
            | none => rw [hg] at this; exact this
            | some g0 =>
              rw [hg] at this hle
              have k0 := this.2
              unfold dM at k0
              rw [gn hl] at k0
              obtain ⟨cs, k1, k2, k3⟩ := k0
              exact ⟨cs, k1, k2, fun j d hj => ⟨(k3 j d hj).1, (k3 j d hj).2.less hle⟩⟩
          have hown : ∀ (r2 : Option Row) b, Own M (b8 (aH h (iX h fr)) x r2) blk b -> (Own M (aH h (iX h fr)) blk b ∧ ¬ tz (blk x) b) ∨ tz (blk x) b := by
            intro r2 b hb
            by_cases hi : tz (blk x) b
            · exact .inr hi
            · refine .inl ⟨?_, hi⟩
              rcases hb with hb | ⟨y, s, g0, hy, hz', hg0, he⟩
              · exact .inl hb
              · by_cases hyx : y = x
                · subst hyx; exact absurd ⟨g0, hg0, he.symm⟩ hi
                · rw [aC _ _ hyx] at hy
                  exact .inr ⟨y, s, g0, hy, hz', hg0, he⟩
          have key : ∀ {rk : RK} {out : Option Row}, Γ.sem g (some (d0, { r with v := 0 })) aeJ = some (rk, out) -> dx P g ∧ Calls P g (#[u0] ++ vs) w fun e' w' => ∃ u, e' = .returned u ∧ dp (tz (blk x)) w w' ∧
              (∀ r1, out = some r1 -> Inv N M L w0 blk V t (b8 (aH h (iX h fr)) x (some { r1 with v := v })) a w' ∧ r1.ty = r.ty) ∧
              (match rk with
               | .same s o n => Ci w' (blk x) (.buf 0 0 s o n) u
               | .clean d => RP w' (fun b => (Own M (aH h (iX h fr)) blk b ∧ ¬ tz (blk x) b) ∨ tz (blk x) b) d u
               | .fresh ty s n cells => Cc w w' (fun b => Own M (aH h (iX h fr)) blk b ∧ ¬ tz (blk x) b) (tz (blk x)) u (.fresh ty s n cells)) := by
            intro rk out hs
            obtain ⟨hcalls, hcl⟩ := hΓ.calls g _ aeJ _ _ hs
            refine ⟨hcl, ?_⟩
            refine (hcalls w (fun b => Own M (aH h (iX h fr)) blk b ∧ ¬ tz (blk x) b) (blk x) u0 vs (fun b hb => hIf.xB hb.1) (fun b hb hb' => hb'.2 hb) hz (gn (r := r) hl : r.mp = false) hrow (h0 r hl) hargs').mono fun e' w' hg => ?_
            obtain ⟨u, he, hb, ho, hk⟩ := hg
            refine ⟨u, he, hb, fun r1 hr1 => ?_, hk⟩
            subst hr1
            obtain ⟨o1, o2, omp, o3, o4⟩ := ho
            refine ⟨?_, o1⟩
            have := hIf.rewrite (cs := r1.cells) (lst := r1.lst) (fz := r1.fz) (w' := w') hxf hz hb.os hb.tape hb.output hb.size (fun b hb1 hb2 => hb.block b hb1 (fun ⟨g0, hg0, he⟩ => hb2 g0 hg0 he)) (by
              cases hg : blk x with
              | none => rw [hg] at o4; exact o4
              | some g0 =>
                rw [hg] at o3 o4
                obtain ⟨cs, k1, k2, k3⟩ := o4
                simp only at o1
                rw [o1] at k1
                refine ⟨o3 g0 rfl, cs, k1, k2, fun j d hj => ⟨(k3 j d hj).1, (k3 j d hj).2.less fun b hb => ?_⟩⟩
                by_cases hi : tz (some g0) b
                · exact .inr hi
                · exact .inl ⟨hb, hi⟩) (fun h => by rw [o2] at h; cases h)
            have e1 : ({ r1 with v := v } : Row) = ⟨r.v, r.ty, r1.cells, r1.fz, r1.lst, false⟩ := by
              cases r1
              simp only at o1 omp
              simp [o1, hv, omp]
            rw [e1]
            exact this
          split at hE
          · rename_i c r1 hs
            simp only [aeX] at hE
            subst hE
            obtain ⟨hcl, hcalls⟩ := key hs
            refine ⟨hcl, hcalls.mono fun e' w' hg => ?_⟩
            obtain ⟨u, he, hb, ho, hk⟩ := hg
            refine ⟨u, he, blk, ?_, ?_⟩
            · rw [fT]; exact (ho r1 rfl).1.weaken fun _ _ h => .inl h
            · rw [fT]; exact bD (RP.less hk (hown _))
          · rename_i s o' n r1 hs
            simp only [aeX] at hE
            subst hE
            obtain ⟨hcl, hcalls⟩ := key hs
            refine ⟨hcl, hcalls.mono fun e' w' hg => ?_⟩
            obtain ⟨u, he, hb, ho, hk⟩ := hg
            refine ⟨u, he, blk, ?_, ?_⟩
            · rw [fT]; exact (ho r1 rfl).1.weaken fun _ _ h => .inl h
            · rw [fT]
              exact ⟨.inl hVx, fun r' _ _ => hk.2 ⟨0, 0, [], false, false, false⟩ rfl rfl⟩
          · rename_i ty s n cells hs
            split at hE
            · rename_i d
              split at hE
              · rename_i hd
                simp only [aeX] at hE
                subst hE
                obtain ⟨hcl, hcalls⟩ := key hs
                refine ⟨hcl, hcalls.mono fun e' w' hg => ?_⟩
                obtain ⟨u, he, hb, _, hk⟩ := hg
                refine ⟨u, he, ?_⟩
                have := hIf.fresh (e := e) (ty := ty) (s := s) (cells := cells) (n := n) (v := u) (old := some x) (dst := some d) rfl (hV d rfl) (w' := w') ⟨hb.os, hb.tape, hb.output, hb.size, fun k hk hn => hb.block k hk (fun ⟨g0, hg0, he⟩ => hn ⟨x, g0, rfl, hg0, he⟩)⟩ (fun y hy => by cases hy; exact ⟨r, hxf, hz⟩) (by
                  rcases hk with ⟨g, c, cs, h1, h2, h3, h4, h5, h6, h7, h8⟩ | hv
                  · refine .inl ⟨g, c, cs, h1, h2.imp id (fun ⟨g0, hg0, he⟩ => ⟨x, g0, rfl, hg0, he⟩), h3, h4, h5, h6, h7, fun j y hj => ⟨(h8 j y hj).1, ?_⟩⟩
                    refine (h8 j y hj).2.less fun b hb => ?_
                    rcases hb with hb | hb
                    · refine .inl ⟨?_, ?_⟩
                      · rcases hb with hb | ⟨z, s', g0, hz1, hz2, hz3, hz4⟩
                        · exact .inl hb
                        · simp only [forget] at hz1
                          by_cases hzx : z = x
                          · subst hzx; simp [b8] at hz1
                          · rw [aC _ _ hzx] at hz1
                            exact .inr ⟨z, s', g0, hz1, hz2, hz3, hz4⟩
                      · rintro ⟨g1, hg1, he1⟩
                        rcases hb with hb | ⟨z, s', g0, hz1, hz2, hz3, hz4⟩
                        · rw [he1] at hb
                          exact hIf.notM hxf hg1 hb
                        · simp only [forget] at hz1
                          by_cases hzx : z = x
                          · subst hzx; simp [b8] at hz1
                          · rw [aC _ _ hzx] at hz1
                            exact hzx (hIf.inj z x s' r g0 g1 hz1 hxf hz3 hg1 (hz4.trans he1))
                    · exact .inr hb
                  · exact .inr hv)
                unfold aZ
                have e1 : iX h fr ++ [(x, none), (d, some ⟨e, ty, cells, false, true, false⟩)] = (iX h fr ++ [(x, none)]) ++ [(d, some ⟨e, ty, cells, false, true, false⟩)] := by simp
                rw [e1, fT, fT]
                exact this
              · cases hE
            · cases hE
          · cases hE
        · cases hE
      · cases hE
    · cases hE
  · cases hE
inductive mP (Q:D->Value->Prop):List D->List Value->Prop
 | nil:mP Q [] []
 | cons {d:D} {u:Value} {ds:List D} {us:List Value} (h:Q d u) (hs:mP Q ds us):mP Q (d::ds) (u::us)
theorem mP.length {Q:D->Value->Prop} {ds:List D} {us:List Value} (h:mP Q ds us):us.length=ds.length:=by
 induction h with
 | nil=>rfl
 | cons h hs ih=>simp[ih]
theorem mP.of {Q:D->Value->Prop} : ∀ {ds:List D} {us:List Value},us.length=ds.length->(∀(j:Nat) d,ds[j]? = some d->Q d (us.getD j undef))->mP Q ds us
 | [],[],_,_ =>.nil
 | [],_::_,h,_=>by simp at h
 | _::_,[],h,_=>by simp at h
 | d::ds,u::us,h,hq =>.cons (by simpa using hq 0 d rfl) (mP.of (by simpa using h) fun j x hj=>by simpa using hq (j+1) x (by simpa using hj))
theorem mP.at_ {Q:D->Value->Prop} {ds:List D} {us:List Value} (h:mP Q ds us):∀(j:Nat) d,ds[j]? = some d->∃u,us[j]? = some u∧Q d u:=by
 induction h with
 | nil=>intro j d hj;simp at hj
 | cons h hs ih =>
  intro j d hj
  cases j with
  | zero=>simp only[List.getElem?_cons_zero,aeX]at hj;subst hj;exact⟨_,rfl,h⟩
  | succ j=>simp only[List.getElem?_cons_succ]at hj ⊢;exact ih j d hj
theorem mP.append {Q:D->Value->Prop} {ds ds':List D} {us us':List Value} (h:mP Q ds us) (h':mP Q ds' us'):mP Q (ds++ds') (us++us'):=by
 induction h with
 | nil=>exact h'
 | cons h hs ih=>exact .cons h ih
theorem mP.take {Q:D->Value->Prop} {ds:List D} {us:List Value} (h:mP Q ds us):∀n:Nat,mP Q (ds.take n) (us.take n):=by
 induction h with
 | nil=>intro n;simp;exact .nil
 | cons h hs ih =>
  intro n
  cases n with
  | zero=>exact .nil
  | succ n=>exact .cons h (ih n)
theorem mP.drop {Q:D->Value->Prop} {ds:List D} {us:List Value} (h:mP Q ds us):∀n:Nat,mP Q (ds.drop n) (us.drop n):=by
 induction h with
 | nil=>intro n;simp;exact .nil
 | cons h hs ih =>
  intro n
  cases n with
  | zero=>exact .cons h hs
  | succ n=>exact ih n
theorem Inv.ac4 (hI:Inv N M L w0 blk V t h a w) {x v s n:Nat} {r:Row} {u:Value} (hl:live h x v=some r) (hr:RT w (Own M h blk) h blk V (.buf x v s 0 n) u) :
  ∃cs,V5 w r.ty s (blk x) u n cs∧mP (fun d u=>aU d=true∧RP w (Own M h blk) d u) r.cells cs:=by
 obtain⟨hx,hv⟩:=bS hl
 rcases hr.2 r hx hv with⟨g,o',c,N',ty,k0,rfl,k2,k3,k4,k5⟩|⟨k0,rfl,A,rfl⟩
 ·obtain⟨arr,h1,h2,h3⟩:=hI.D0 hx k0 (gn hl)
  obtain⟨k6,k7⟩:=k2 (.inr rfl)
  have hN:N'=arr.size:=by
   simp only[World.shape?,h1,aeX,Prod.mk.injEq]at k5
   exact k5.2.symm
  rw[afn]at k6
  subst k6
  refine⟨(List.range r.cells.length).map fun j=>arr.getD (g.2+j) undef,.inl ⟨g,c,arr,k0,rfl,h1,by omega,k3,k4,fun j y hj =>?_⟩,mP.of (by simp) fun j d hj =>?_⟩
  ·rw[aeL,aeM]at hj
   obtain⟨i,hi,rfl⟩:=hj
   have hlt:=(afh.1 hi).1
   rw[List.getElem?_range (by simpa using hlt)]at hi
   cases hi
   simp only[afj]at hlt
   rw[aeT,afQ (show g.2+j<arr.size by omega)]
   rfl
  ·have hlt:=(afh.1 hj).1
   have:=h3 j d hj
   simpa [List.getD,hlt] using this
 ·have:=(hI.rows x r hx).2
  rw[k0]at this
  have hc:r.cells=[]:=this
  exact⟨[],.inr ⟨k0,rfl,rfl,A,rfl⟩,by rw[hc];exact .nil⟩
theorem Ww {g:Nat} {p:Nat×Nat×Nat} (hins:VT P g p) (hI:Inv N M L w0 blk V t h a w) {dst:Option Nat} {E:bM} {ds:List D} {vs:Array Value} (hE:s7 h e dst p ds=some E) (hV:∀d,dst=some d->kp N V d e) (hsz:vs.size=ds.length)
  (hr:∀(j:Nat) d,ds[j]? = some d->RT w (Own M h blk) h blk V d (vs.getD j undef)):dx P g∧Calls P g vs w fun e' w'=>∃v,e'=.returned v∧aZ N M L w0 V t h a e dst E v w':=by
 refine⟨hins.callable,?_⟩
 unfold s7 at hE
 split at hE<;>try (cases hE;done)
 rename_i x v s o n i y v' s' o' m
 split at hE<;>try (cases hE;done)
 rename_i r r' d hl hl'
 split at hE<;>try (cases hE;done)
 rename_i hc
 obtain⟨hz,hz',hlst,hlst',hxy,rfl,rfl,hty,hty',rfl,rfl,hlen,hlen',hi0,hi1,hm0,hmax⟩:=hc
 simp only[aeX]at hE
 subst hE
 obtain⟨hx,hv⟩:=bS hl
 obtain⟨hy,hv'⟩:=bS hl'
 have hvs:vs = #[vs.getD 0 undef,vs.getD 1 undef,vs.getD 2 undef]:=by
  simp only[List.length_cons,List.length_nil]at hsz
  apply Array.ext
  ·simp[hsz]
  ·intro j h1 h2
   have:j=0∨j=1∨j=2:=by omega
   rcases this with rfl|rfl|rfl<;>simp[afQ h1]
 have h0:=hr 0 _ rfl
 have h1:=k9 (hr 1 _ rfl)
 have h2:=hr 2 _ rfl
 obtain⟨cs,a1,a2⟩:=hI.ac4 hl h0
 obtain⟨cs',b1,b2⟩:=hI.ac4 hl' h2
 rw[hty]at a1
 rw[hty']at b1
 have hone:∀ {ds:List D} {us:List Value},mP (fun d u=>aU d=true∧RP w (Own M h blk) d u) ds us->∀u∈us,u.oneCell'=true:=by
  intro ds us hR
  induction hR with
  | nil=>intro u hu;simp at hu
  | cons h hs ih =>
   intro u hu
   rcases aeV.1 hu with rfl|hu
   ·exact h.2.vV h.1
   ·exact ih u hu
 rw[hvs,h1,show i=((i.toNat:Nat):Int) by omega]
 refine (hins.calls w (blk x) (blk y) _ _ i.toNat n m cs cs' a1 b1 (fun g g' hg hg' he=>hxy (hI.inj x y r r' g g' hx hy hg hg' he)) (by rw[a2.length,hlen]) (by rw[b2.length,hlen']) (hone a2) (hone b2) (by omega) hm0 hmax).mono fun e' w' hg =>?_
 obtain⟨u,he,hb,g,c,arr,rfl,g1,g2,g3,g4,g5,g6⟩:=hg
 refine⟨_,he,?_⟩
 have hId:=hI.drop y
 have hxd:b8 h y none x=some r:=by rw[aC _ _ hxy];exact hx
 have hRel:mP (fun d u=>aU d=true∧RP w (Own M h blk) d u) (r.cells.take (i.toNat*p.2.1)++(r'.cells++r.cells.drop (i.toNat*p.2.1))) (cs.take (i.toNat*p.2.1)++(cs'++cs.drop (i.toNat*p.2.1))):=(a2.take _).append (b2.append (a2.drop _))
 have hown:∀b,Own M (forget (b8 h y none) (some x)) blk b->Own M h blk b:=by
  intro b hb
  rcases xA hb with hb|⟨z,q,g0,hz1,hz2,hz3,hz4⟩
  ·exact .inl hb
  ·by_cases hzy:z=y
   ·subst hzy;simp[b8]at hz1
   ·rw[aC _ _ hzy]at hz1
    exact .inr ⟨z,q,g0,hz1,hz2,hz3,hz4⟩
 have hin:∀b,tz (blk x) b->Own M h blk b:=fun b ⟨g0,hg0,hb0⟩ =>.inr ⟨x,r,g0,hx,hz,hg0,hb0.symm⟩
 have hfin:=hId.fresh (e:=e) (ty:=p.1) (s:=p.2.1) (cells:=r.cells.take (i.toNat*p.2.1)++(r'.cells++r.cells.drop (i.toNat*p.2.1))) (n:=n+m) (v := .slice (some ⟨g.1,g.2,none⟩) (n+m) c) (old:=some x) (dst:=some d) rfl (hV d rfl) (w':=w')
  ⟨hb.os,hb.tape,hb.output,hb.size,fun k hk hn=>hb.block k hk (fun⟨g0,hg0,he⟩=>hn ⟨x,g0,rfl,hg0,he⟩)⟩ (fun z hz1=>by cases hz1;exact⟨r,hxd,hz⟩)
  (.inl ⟨g,c,arr,rfl,g1.imp id (fun⟨g0,hg0,he⟩=>⟨x,g0,rfl,hg0,he⟩),g2,g3,g4,g5,?_,fun j d' hj =>?_⟩)
 ·unfold aZ
  exact hfin
 ·have hpos:=hins.pos
  have e1:(cs.take (i.toNat*p.2.1)++(cs'++cs.drop (i.toNat*p.2.1))).length=(r.cells.take (i.toNat*p.2.1)++(r'.cells++r.cells.drop (i.toNat*p.2.1))).length:=hRel.length
  have e2:(r.cells.take (i.toNat*p.2.1)++(r'.cells++r.cells.drop (i.toNat*p.2.1))).length=(n+m)*p.2.1:=by
   have:=afA p.2.1 (show i.toNat<=n by omega)
   rw[afP,afP,ae7,ae8,hlen,hlen',afS this,afT]
   omega
  rw[e2]
  have:=afA p.2.1 g3
  omega
 ·obtain⟨u,hu,hq1,hq2⟩:=hRel.at_ j d' hj
  have hau:=g6 j u hu
  refine⟨hq1,?_⟩
  rw[aeT,hau]
  refine hq2.keep fun b q1 q2=>⟨aeR q1 hb.size,?_,hb.block b q1 (fun hn=>q2 (hin b hn))⟩
  rintro (hn|rfl)
  ·exact q2 (hown b hn)
  ·rcases g1 with g1|g1
   ·omega
   ·exact q2 (hin _ g1)
theorem Wu {g:Nat} {p:Grow} (hgr:VS P g p) (hI:Inv N M L w0 blk V t h a w) (hP:∀x v,V x v->x<N∨2*PK<=x) {dst:Option Nat} {E:bM} {ds:List D} {vs:Array Value} (hE:s6 h p ds=some E) (hsz:vs.size=ds.length)
  (hr:∀(j:Nat) d,ds[j]? = some d->RT w (Own M h blk) h blk V d (vs.getD j undef)):dx P g∧Calls P g vs w fun e' w'=>∃v,e'=.returned v∧aZ N M L w0 V t h a e dst E v w':=by
 refine⟨hgr.callable,?_⟩
 unfold s6 at hE
 split at hE<;>try (cases hE;done)
 rename_i y v k rest
 split at hE<;>try (cases hE;done)
 rename_i ry k' s n r hlp hk
 split at hE<;>try (cases hE;done)
 rename_i hcond
 obtain⟨rfl,hkp,hyPK,hryf,hrm,hrf,hrl,rfl,hrt,hlen,hmax⟩:=hcond
 split at hE<;>try (cases hE;done)
 rename_i cs hsem
 simp only[aeX]at hE
 subst hE
 obtain⟨hy,hv,hmp,hcs⟩:=xu hlp
 obtain⟨f1,f2,f3,f4⟩:=hgr.flat _ _ _ hsem
 have h0:=hr 0 _ rfl
 obtain⟨gy,hgy,hu0⟩:=h0.2 ry hy hv
 have hri:=hI.rowIs hy hgy
 unfold dM at hri
 rw[hmp]at hri
 rcases hri with⟨_,_,hcc,_⟩|⟨_,ya,y1,y2,_⟩
 ·rw[hcs]at hcc;cases hcc
 replace y2:gy.2<ya.size:=by rw[hcs]at y2;simp at y2;omega
 obtain⟨_,u,hcell,hph⟩:=hI.pha y ry gy hy hmp hgy 0 _ _ _ (by rw[hcs];rfl)
 rw[afn]at hcell
 have hyN:y<N:=by have:=hP _ _ h0.1;omega
 have hyu:ya[gy.2]? = some u:=by
  rw[bu y1 y2]at hcell
  rw[aeX,aeT,afQ y2]at hcell
  rw[afQ y2,<- hcell]
  rfl
 have hbig:=hI.big
 have hpk:PK=1000000:=rfl
 have hyk:y≠k':=by omega
 have hsl:V5 w p.ty p.k (blk k') u n (r.cells.map KC):=by
  rcases hph r hk with⟨g',c,N',ty',g0,rfl,g2,g3,g4,g5⟩|⟨g0,rfl,A,rfl⟩
  ·obtain⟨arr,k1,k2,k3⟩:=hI.D0 hk g0 hrm
   rw[hrt]at k1
   refine .inl ⟨g',c,arr,g0,rfl,k1,?_,g3,g4,fun j x hj =>?_⟩
   ·simp only[World.shape?,k1,aeX,Prod.mk.injEq]at g5
    omega
   ·rw[aeL,aeM]at hj
    obtain⟨d,hj,rfl⟩:=hj
    have hlt:=(afh.1 hj).1
    have:=Ho (f1 d (afg hj)) (k3 j d hj).2
    rw[afQ (by omega),<- this,aeT,afQ (by omega)]
    rfl
  ·have:=(hI.rows k' r hk).2
   rw[g0]at this
   have hc:r.cells=[]:=this
   exact .inr ⟨g0,rfl,by rw[hc];rfl,A,rfl⟩
 have hgne:∀g,blk k'=some g->g.1≠gy.1:=fun g hg he=>hyk (hI.inj y k' ry r gy g hy hk hgy hg he.symm)
 have hvs:vs = #[.pointer (some ⟨gy.1,gy.2,none⟩)]++(rest.map aal).toArray:=by
  apply Array.ext
  ·simp at hsz ⊢;omega
  ·intro j h1 h2
   cases j with
   | zero =>
    simp only[aeT,afQ h1,Option.getD_some,Nat.add_zero]at hu0
    simp[hu0]
   | succ j =>
    have hj:j<rest.length:=by simp at hsz;omega
    have hd:=hr (j+1) _ (by rw[afO];exact ae1 hj)
    have hfl:=f2 _ (ae0 hj)
    have hrp:RP w (Own M h blk) rest[j] (vs.getD (j+1) undef):=by
     revert hd hfl
     generalize rest[j]=d
     intro hd hfl
     cases d<;>first|exact hd|cases hfl
    have:=UO hfl hrp
    simp only[aeT,afQ h1,Option.getD_some]at this
    rw[this]
    simp[afU]
 rw[hvs]
 refine (hgr.calls w gy ya ry.ty (blk k') u n r.cells rest cs y1 hyu hsl hgne hlen hsem hmax).mono fun e' w' hpost =>?_
 obtain⟨he,hb,g,c,arr,q1,q2,q3,q4,q5,q6,q7⟩:=hpost
 refine⟨_,he,b8 blk k' (some g),?_,RP.int _ _⟩
 have hV0:∀v,¬V k' v:=fun v hv=>by have:=hP _ _ hv;omega
 generalize hnu:Value.slice (some ⟨g.1,g.2,none⟩) (n+1) c=nu at q2
 have hw1:(w.setRow gy.1 (ya.setIfInBounds gy.2 nu)).heap[gy.1]? = some (.cells (ya.setIfInBounds gy.2 nu) ry.ty (0,0)):=setRow_heap w gy.1 ya _ ry.ty (0,0) y1
 have hhs:(w.setRow gy.1 (ya.setIfInBounds gy.2 nu)).heap.size=w.heap.size:=by simp[World.setRow]
 have hheap:∀b,b≠gy.1->(w.setRow gy.1 (ya.setIfInBounds gy.2 nu)).heap[b]? = w.heap[b]?:=by
  intro b hb
  simp only[World.setRow,aeY]
  rw[if_neg (Ne.symm hb)]
 have hI0:=hI.nR (r0:=⟨ry.v,ry.ty,[],false,false,false⟩) (w':=w.setRow gy.1 (ya.setIfInBounds gy.2 nu)) hy hryf rfl rfl rfl rfl (by rw[hhs];exact aeO _) (fun b _ hb=>hheap b (hb gy hgy)) (by
  rw[hgy]
  exact⟨by simp[World.shape?,hw1,y1],_,hw1,by simp;omega,fun j d hj=>by simp at hj⟩) (fun h=>by cases h)
 have hk0:b8 h y (some (⟨ry.v,ry.ty,[],false,false,false⟩:Row)) k'=some r:=by rw[aC _ _ (Ne.symm hyk)];exact hk
 have hA:=hI0.Wc (w':=w') (h1:=forget (b8 h y (some ⟨ry.v,ry.ty,[],false,false,false⟩)) (some k')) (old:=some k') (d:=k') (r0:=⟨r.v,p.ty,r.cells++cs,false,true,false⟩) (go:=some g) (y0:=y) hb.os hb.tape hb.output (by rw[hhs];exact hb.size)
  (fun b hlt hn=>by
   by_cases hbg:b=gy.1
   ·subst hbg;rw[q2,hw1]
   ·rw[hheap b hbg]
    refine hb.block b (by rw[hhs]at hlt;exact hlt) ?_
    rintro (hh|⟨g0,hg0,hh⟩)
    ·exact hbg hh
    ·exact hn k' g0 rfl hg0 hh) (fun y' hy'=>by cases hy';exact⟨r,hk0,hrf⟩) rfl hkp hyN hV0
  (fun r' hr'=>by
   simp only[forget]at hr'
   rw[aC _ _ hyk,ay]at hr'
   cases hr'
   rfl) (by
  refine⟨q1.imp (fun hh=>by rw[hhs];exact hh) (fun⟨g0,hg0,hh⟩=>⟨k',g0,rfl,hg0,hh⟩),arr,q3,?_,fun j d hj =>?_⟩
  ·simp only[afP,f4,hlen]
   have:=afA p.k q4
   rw[afT]at this
   omega
  ·have hfd:AZ d=true:=by
    rcases afV.1 (afg hj) with hm|hm
    ·exact f1 d hm
    ·exact f3 d hm
   have hx:=q7 j (KC d) (by rw[aeL];simp only at hj;rw[hj];rfl)
   have:arr.getD (g.2+j) undef=KC d:=by rw[aeT,hx];rfl
   rw[this]
   exact Xd hfd) rfl
 have hyB:b8 (forget (b8 h y (some (⟨ry.v,ry.ty,[],false,false,false⟩:Row))) (some k')) k' (some (⟨r.v,p.ty,r.cells++cs,false,true,false⟩:Row)) y=some ⟨ry.v,ry.ty,[],false,false,false⟩:=by
  rw[aC _ _ hyk]
  simp only[forget]
  rw[aC _ _ hyk,ay]
 have hgB:b8 blk k' (some g) y=some gy:=by rw[aC _ _ hyk,hgy]
 have hsz2:gy.2<(ya.setIfInBounds gy.2 nu).size:=by simpa using y2
 have hB:=hA.nR (r0:=⟨ry.v,ry.ty,[.ph k' p.k (n+1)],false,false,true⟩) (w':=w') hyB rfl rfl rfl rfl rfl (aeO _) (fun b _ _=>rfl) (by
  rw[hgB]
  refine⟨rfl,.inr ⟨fun d hd=>by simp only[afb]at hd;subst hd;rfl,_,q2,by simp only[List.length_singleton];omega,fun j d hj =>?_⟩⟩
  cases j with
  | zero=>simp only[List.getElem?_cons_zero,aeX]at hj;subst hj;trivial
  | succ j=>simp at hj) (fun h=>by cases h) (fun _ g' hg' j x' s' n' hc=>by
  rw[hgB]at hg'
  cases hg'
  cases j with
  | succ j=>simp at hc
  | zero =>
  simp only[List.getElem?_cons_zero,aeX,D.ph.injEq]at hc
  obtain⟨rfl,rfl,rfl⟩:=hc
  rw[afn]
  refine⟨⟨hyPK,.inl hkp⟩,nu,?_,fun r' _ =>.inl ⟨g,c,arr.size,p.ty,ay _ _ _,hnu.symm,q6,q4,q5,by simp[World.shape?,q3]⟩⟩
  rw[bu q2 hsz2]
  simp[aeT,y2])
 have heq:aH h [(k',some (⟨r.v,p.ty,r.cells++cs,false,true,false⟩:Row)),(y,some ⟨ry.v,ry.ty,[.ph k' p.k (n+1)],false,false,true⟩)]=b8 (b8 (forget (b8 h y (some (⟨ry.v,ry.ty,[],false,false,false⟩:Row))) (some k')) k' (some (⟨r.v,p.ty,r.cells++cs,false,true,false⟩:Row))) y (some ⟨ry.v,ry.ty,[.ph k' p.k (n+1)],false,false,true⟩):=by
  funext z
  simp only[aH,forget,b8]
  by_cases hzy:z=y
  ·rw[if_pos hzy,if_pos hzy]
  ·rw[if_neg hzy,if_neg hzy]
   by_cases hzk:z=k'
   ·rw[if_pos hzk,if_pos hzk]
   ·rw[if_neg hzk,if_neg hzk,if_neg hzk,if_neg hzy]
 show Inv _ _ _ _ _ _ _ (aH h _) _ _
 rw[heq]
 exact hB.weaken fun _ _ h =>.inl h
theorem Uz (hΓ:bq P Γ) (hI:Inv N M L w0 blk V t h a w) {c:Call} {f:Operand} {E:bM} (ho:o.op=.call c) (hc:c.callee=.value f) (hV:∀d,o.dst=some d->kp N V d e) (hP:∀x v,V x v->x<N∨2*PK<=x) (hE:hX Γ h e o.dst (ev t f) (c.args.toList.map (ev t))=some E):eK P o a w (aZ N M L w0 V t h a e o.dst E):=by
 have hf:=hI.ev f
 have hargs:∀(j:Nat) d,(c.args.toList.map (ev t))[j]? = some d->RT w (Own M h blk) h blk V d ((c.args.map a.eval).getD j undef):=by
  intro j d hj
  rw[aeL]at hj
  cases hx:c.args.toList[j]? with
  | none=>simp[hx]at hj
  | some x =>
   simp only[hx,Option.map_some,aeX]at hj
   subst hj
   have:(c.args.map a.eval).getD j undef=a.eval x:=by
    have hx':c.args[j]? = some x:=by simpa using hx
    simp[hx']
   rw[this]
   exact hI.ev x
 have hsz:(c.args.map a.eval).size=(c.args.toList.map (ev t)).length:=by simp
 have hrun:∀ {g:Nat} {fs caps:Array Value},a.eval f=.func (.func g) fs caps->dx P g->(execOp a.eval o).run P w=.ok (.enter g (fs++c.args.map a.eval++caps)) w:=by
  intro g fs caps hfv ⟨fn,hfn,hname,hbody⟩
  have hn:¬fn.name = "runtime.NumGoroutine":=by simpa using hname
  have hb:¬fn.body=none:=by
   intro h0
   rw[h0]at hbody
   cases hbody
  simp[execOp,ho,resolve,hc,hfv,Deferred.ofValue,invoke,callFunc,program,Sem.run,hfn,hn,hb]
 generalize c.args.toList.map (ev t)=ds at *
 generalize c.args.map a.eval=vs at *
 generalize ev t f=q at *
 have done:∀ {g:Nat} {fs caps:Array Value} {args:Array Value},a.eval f=.func (.func g) fs caps->args=fs++vs++caps->(dx P g∧Calls P g args w fun e' w'=>∃v,e'=.returned v∧aZ N M L w0 V t h a e o.dst E v w')->eK P o a w (aZ N M L w0 V t h a e o.dst E) :=
  fun hfv hargs ⟨h1,h2⟩ =>.inr (.inr ⟨_,_,hargs ▸ hrun hfv h1,h2⟩)
 cases q with
 | fn g =>
  have hfv:a.eval f=.func (.func g) #[] #[]:=by
   have hf':RP w (Own M h blk) (.fn g) (a.eval f):=hf
   generalize a.eval f=u at *
   cases hf'
   rfl
  simp only[hX]at hE
  split at hE
  ·rename_i p hp
   exact done hfv (by simp) (Ww (hΓ.ins g p hp) hI hE hV hsz hargs)
  split at hE
  ·rename_i p hp
   exact done hfv (by simp) (Wu (hΓ.grw g p hp) hI hP hE hsz hargs)
  split at hE
  ·split at hE
   ·rename_i x v s c0 n rest
    have hsz':(vs.extract 1 vs.size).size=rest.length:=by simp at hsz ⊢;omega
    have hvs:vs = #[vs.getD 0 undef]++vs.extract 1 vs.size:=by
     have:0<vs.size:=by simp at hsz;omega
     apply Array.ext
     ·simp;omega
     ·intro i h1 h2
      cases i with
      | zero=>simp[afQ this]
      | succ i=>simp[afU];congr 1;omega
    have h0:=hargs 0 _ rfl
    refine done hfv (by simpa using hvs.symm) (Lg hΓ hI hE hV h0.1 (fun r hl=>(hI.aaV hl).1 _ _ _ h0) hsz' (fun j d hj =>?_))
    have:=hargs (j+1) d (by simpa using hj)
    have e1:(vs.extract 1 vs.size).getD j undef=vs.getD (j+1) undef:=by
     simp only[aeT]
     congr 1
     rw[Array.getElem?_extract]
     split
     ·congr 1;omega
     ·rename_i hh;rw[Array.getElem?_eq_none (by omega)]
    rw[e1];exact this
   ·rename_i x v c0 rest
    have hsz':(vs.extract 1 vs.size).size=rest.length:=by simp at hsz ⊢;omega
    have hvs:vs = #[vs.getD 0 undef]++vs.extract 1 vs.size:=by
     have:0<vs.size:=by simp at hsz;omega
     apply Array.ext
     ·simp;omega
     ·intro i h1 h2
      cases i with
      | zero=>simp[afQ this]
      | succ i=>simp[afU];congr 1;omega
    have h0:=hargs 0 _ rfl
    refine done hfv (by simpa using hvs.symm) (Lg hΓ hI hE hV h0.1 (fun r hl=>(hI.aaV hl).2 _ h0) hsz' (fun j d hj =>?_))
    have:=hargs (j+1) d (by simpa using hj)
    have e1:(vs.extract 1 vs.size).getD j undef=vs.getD (j+1) undef:=by
     simp only[aeT]
     congr 1
     rw[Array.getElem?_extract]
     split
     ·congr 1;omega
     ·rename_i hh;rw[Array.getElem?_eq_none (by omega)]
    rw[e1];exact this
   ·cases hE
  ·exact done hfv (by simp) (Lc hΓ hI hE hV hsz hargs)
 | clo g kk caps =>
  obtain⟨us,k1,k2,k3⟩:=hf
  simp only[hX]at hE
  by_cases hok:caps.all jC=true
  rotate_left
  ·rw[if_neg hok]at hE;cases hE
  rw[if_pos hok]at hE
  have hus:((us.take kk).toArray++vs++(us.drop kk).toArray).toList=us.take kk++(vs.toList++us.drop kk):=by simp
  have hl1:(us.take kk).length=(caps.take kk).length:=by rw[ae7,ae7,k2]
  have hsz':vs.toList.length=ds.length:=by simpa using hsz
  refine done k1 rfl (Lc hΓ hI hE hV (by simp[hsz,k2]) (fun j d hj =>?_))
  have hget:((us.take kk).toArray++vs++(us.drop kk).toArray).getD j undef=(us.take kk++(vs.toList++us.drop kk)).getD j undef:=by
   rw[<- hus,aeT,afr,afE]
  rw[hget,afr]
  rw[afv]at hj ⊢
  rw[hl1]
  split at hj
  ·rename_i hlt
   rw[if_pos hlt]
   have hj2:j<kk:=by rw[ae7]at hlt;omega
   rw[ae4,if_pos hj2]at hj ⊢
   have:=Cm (k3 _ d hj)
   rwa [afr]at this
  ·rename_i hlt
   rw[if_neg hlt]
   rw[afv]at hj ⊢
   rw[hsz']
   split at hj
   ·rename_i hlt2
    rw[if_pos hlt2]
    have:=hargs _ d hj
    rw[aeT]at this
    simpa using this
   ·rename_i hlt2
    rw[if_neg hlt2]
    rw[ae5]at hj ⊢
    have:=Cm (k3 _ d hj)
    rwa [afr]at this
 | _=>simp[hX]at hE
theorem RT.ad3 {d:D} {n:Nat} {u:Value} (hI:Inv N M L w0 blk V t h a w) (hl:yB d=some n) (ha:alive h d=true) (hr:RT w (Own M h blk) h blk V d u) :
  (∀s,d=.str s->u=.string s∧s.size=n)∧((∀s,d ≠ .str s)->∃A c,u=.slice A n c):=by
 cases d with
 | str s =>
  simp only[yB,aeX]at hl
  refine⟨fun s' hs =>?_,fun hn=>absurd rfl (hn s)⟩
  cases hs
  exact⟨Co hr,hl⟩
 | sl nl tight m xs =>
  simp only[yB,aeX]at hl
  subst hl
  refine⟨fun s' hs=>(by cases hs),fun _ =>?_⟩
  have hr':RP w (Own M h blk) (.sl nl tight m xs) u:=hr
  cases hr' with
  | sl A c nl tight n xs us h1 h2 h3 h4 h5 h6 h7 h8=>exact⟨A,c,rfl⟩
 | buf x v s o m =>
  simp only[yB,aeX]at hl
  subst hl
  refine⟨fun s' hs=>(by cases hs),fun _ =>?_⟩
  simp only[alive,Option.isSome_iff_exists]at ha
  obtain⟨r,hr'⟩:=ha
  obtain⟨hx,hv⟩:=pI hr'
  rcases hr.2 r hx hv with⟨g,o',c,N',t',_,g1,_⟩|⟨_,rfl,A,g1⟩
  ·exact⟨_,c,g1⟩
  ·exact⟨A,0,g1⟩
 | _=>simp[yB]at hl
theorem OW (k:IntKind):∀(ds:List D) (us:List Value) (x z:Int),xw (fun x y=>if y>x then y else x) k x ds=some z->us.length=ds.length->(∀j d,ds[j]? = some d->RT w (Own M h blk) h blk V d (us.getD j undef)) ->
  (us.foldlM Builtin.max2 (.int k x)).run P w=.ok (.int k z) w
 | [],us,x,z,hm,hl,_=>by
  have:us=[]:=afW hl
  subst this
  simp only[xw,aeX]at hm
  subst hm
  rfl
 | d::ds,us,x,z,hm,hl,hr=>by
  cases us with
  | nil=>simp at hl
  | cons u us =>
   have hu:=hr 0 d rfl
   cases d with
   | int k' y =>
    simp only[xw]at hm
    split at hm
    ·have hu':=k9 hu
     simp only[afX]at hu'
     subst hu'
     have ih:=OW k ds us _ z hm (by simpa using hl) (fun j d hj=>by simpa using hr (j+1) d (by simpa using hj))
     simp only[List.foldlM_cons,afl,Builtin.max2,Sem.run_pure,Result.andThen_ok]
     exact ih
    ·cases hm
   | _=>simp[xw]at hm
theorem OX (k:IntKind):∀(ds:List D) (us:List Value) (x z:Int),xw (fun x y=>if y<x then y else x) k x ds=some z->us.length=ds.length->(∀j d,ds[j]? = some d->RT w (Own M h blk) h blk V d (us.getD j undef)) ->
  (us.foldlM Builtin.min2 (.int k x)).run P w=.ok (.int k z) w
 | [],us,x,z,hm,hl,_=>by
  have:us=[]:=afW hl
  subst this
  simp only[xw,aeX]at hm
  subst hm
  rfl
 | d::ds,us,x,z,hm,hl,hr=>by
  cases us with
  | nil=>simp at hl
  | cons u us =>
   have hu:=hr 0 d rfl
   cases d with
   | int k' y =>
    simp only[xw]at hm
    split at hm
    ·have hu':=k9 hu
     simp only[afX]at hu'
     subst hu'
     have ih:=OX k ds us _ z hm (by simpa using hl) (fun j d hj=>by simpa using hr (j+1) d (by simpa using hj))
     simp only[List.foldlM_cons,afl,Builtin.min2,Sem.run_pure,Result.andThen_ok]
     exact ih
    ·cases hm
   | _=>simp[xw]at hm
end
section
variable {P:Program} {T:Nat->Option Ty} {N:Nat} {M:Nat->Prop} {L:ky} {w0:World} {blk:Nat->Option (Nat×Nat)} {V:Nat->Nat->Prop} {t:Nat->D} {h:Nat->Option Row} {a:Act} {w:World} {e:Nat} {o:Oper} {Γ:Env}
theorem Inv.content (hI:Inv N M L w0 blk V t h a w) {d:D} {m s:Nat} {news:List D} {u:Value} (hs:0<s) (hc:content h d=some (m,news)) (hl:news.length=m*s) (hr:RT w (Own M h blk) h blk V d u) :
  ∃(A:Option Addr) (c:Nat) (us:List Value),u=.slice A m c∧m<=c∧us.length=news.length∧(∀j x,news[j]? = some x->aU x=true∧RP w (Own M h blk) x (us.getD j undef)) ∧
   (∀ad,A=some ad->∀j v,us[j]? = some v->w.cell? (ad.add j)=some v)∧(A=none->m=0∧c=0):=by
 cases d with
 | sl nl tight n xs =>
  simp only[Am.content,aeX,Prod.mk.injEq]at hc
  obtain⟨rfl,rfl⟩:=hc
  have hr':RP w (Own M h blk) (.sl nl tight n xs) u:=hr
  cases hr' with
  | sl A c nl tight n xs us h1 h2 h3 h4 h5 h6 h7 h8 =>
   refine⟨A,c,(List.range xs.length).map us,rfl,h1,by simp,fun j x hj=>⟨h8 x (afg hj),?_⟩,fun ad hA j v hj =>?_,h4⟩
   ·have hlt:=(afh.1 hj).1
    have:((List.range xs.length).map us).getD j undef=us j:=by simp[List.getD,hlt]
    rw[this];exact h7 j x hj
   ·obtain⟨hlt,he⟩:=afh.1 hj
    simp only[afi,afj]at hlt
    simp only[List.getElem_map,afk]at he
    have hne:xs≠[]:=by rintro rfl;simp at hlt
    obtain⟨b,o,hA',_,_,g3⟩:=h6 hne
    rw[hA]at hA'
    simp only[aeX]at hA'
    subst hA'
    rw[pf,<- he]
    exact g3 j hlt
 | buf x v z q n =>
  simp only[Am.content]at hc
  split at hc
  ·rename_i r hlv
   split at hc
   ·rename_i hle
    simp only[aeX,Prod.mk.injEq]at hc
    obtain⟨rfl,rfl⟩:=hc
    rcases hI.xU hlv hr with⟨g,o',c,cs,g0,g1,g2,g3,g4,g5,g7,g8⟩|⟨g0,rfl,g2,A,g3⟩
    ·have hlen:((r.cells.drop q).take (n*z)).length=n*z:=by simp;omega
     rw[hlen]at hl
     refine⟨_,c,(List.range (n*z)).map (fun j=>cs.getD (g.2+(q+j)) undef),g1,g2,by simp;omega,fun j x hj =>?_,fun ad hA j v hj =>?_,fun hA=>by cases hA⟩
     ·rw[cc]at hj
      split at hj
      ·rename_i hjl
       have:((List.range (n*z)).map (fun j=>cs.getD (g.2+(q+j)) undef)).getD j undef=cs.getD (g.2+(q+j)) undef:=by simp[List.getD,hjl]
       rw[this]
       exact g8 _ _ hj
      ·cases hj
     ·obtain⟨hlt,he⟩:=afh.1 hj
      simp only[afi,afj]at hlt
      simp only[List.getElem_map,afk]at he
      simp only[aeX]at hA
      subst hA
      have hn:0<n:=by
       rcases ae6 n with h0|h0
       ·subst h0;simp at hlt
       ·exact h0
      have:=(g5 (.inl (by omega))).1
      subst this
      rw[pf,<- he,ae9]
      exact bu g4 (by omega)
    ·refine⟨A,0,[],g3,aeO _,by simp,fun j x hj=>by simp at hj,fun ad hA j v hj=>by simp at hj,fun _=>⟨rfl,rfl⟩⟩
   ·cases hc
  ·cases hc
 | _=>simp[Am.content]at hc
theorem KW {M':Nat->Prop} {olds news:List D} {xs us:List Value} {cur:Array Value} {b:Nat} (hxl:xs.length=olds.length) (hul:us.length=news.length) (hcur:(cur.toList.drop b).take (olds.length+news.length)=xs++us)
  (h1:∀j x,olds[j]? = some x->aU x=true∧RP w M' x (xs.getD j undef)) (h2:∀j x,news[j]? = some x->aU x=true∧RP w M' x (us.getD j undef)) (j:Nat) (x:D) (hj:(olds++news)[j]? = some x) :
  aU x=true∧RP w M' x (cur.getD (b+j) undef):=by
 have hlt:j<olds.length+news.length:=by
  have:=(afh.1 hj).1
  simpa using this
 have hg:cur.getD (b+j) undef=(xs++us).getD j undef:=by
  rw[<- hcur]
  simp only[afr,ae4,if_pos hlt,ae5]
  simp
 rw[hg]
 by_cases hjo:j<olds.length
 ·rw[afs hjo]at hj
  have:(xs++us).getD j undef=xs.getD j undef:=by
   simp only[afr]
   rw[afs (by omega)]
  rw[this];exact h1 j x hj
 ·rw[aft (by omega)]at hj
  have:(xs++us).getD j undef=us.getD (j-olds.length) undef:=by
   simp only[afr]
   rw[aft (by omega),hxl]
  rw[this];exact h2 _ x hj
theorem XW {M':Nat->Prop} {news:List D} {us:List Value} (hul:us.length=news.length) (h2:∀j x,news[j]? = some x->aU x=true∧RP w M' x (us.getD j undef)):∀u∈us,u.oneCell'=true:=by
 intro u hu
 obtain⟨j,hj⟩:=afa hu
 have hlt:=(afh.1 hj).1
 obtain⟨p1,p2⟩:=h2 j _ (ae1 (by omega))
 have:us.getD j undef=u:=by simp[List.getD,hj]
 rw[this]at p2
 exact p2.vV p1
theorem oc (t ty el:Nat) {τ:Ty} (hd:P.underlying t=some (.slice el)) {φ:Ty} (hφ:gA P el φ) (A B:Option Addr) (n c k:Nat) (hn:n<=c):(Builtin.append_ #[t,t] ty #[.slice A n c,.slice B 0 k]).run P w=.ok (.slice A n c) w:=by
 have hfc:(Builtin.firstCells φ.size 0 (.slice B 0 k)).run P w=.ok #[] w:=by
  cases B with
  | none=>simp[Builtin.firstCells]
  | some b=>simp[Builtin.firstCells,loadCells,loadCellsFrom]
 cases A with
 | none=>simp[Builtin.append_,run_underlying hd,run_sizeOf hφ,Builtin.lenOf,hn,hfc]
 | some b=>simp[Builtin.append_,run_underlying hd,run_sizeOf hφ,Builtin.lenOf,hn,hfc,storeCells]
theorem E1 (t ty el:Nat) {φ:Ty} (hd:P.underlying t=some (.slice el)) (hφ:gA P el φ) (hpos:0<φ.size) (hz0:φ.zero.length=φ.size) (A:Option Addr) (n cap:Nat) (xs:List Value) (hxl:xs.length=n*φ.size)
  (hxs:∀ad,A=some ad->∀j u,xs[j]? = some u->w.cell? (ad.add j)=some u) (hA:A=none->n=0∧cap=0) (b:Addr) (m c:Nat) (us:List Value) (hul:us.length=m*φ.size)
  (hus:∀j u,us[j]? = some u->w.cell? (b.add j)=some u) (hg:cap<n+m) (h63:n+m<=maxLen) (hb:(n+m)*φ.bytes<=140737488355328) :
  ∃k vs,(Builtin.append_ #[t,t] ty #[.slice A n cap,.slice (some b) m c]).run P w=.ok (.slice (some ⟨w.heap.size,0,none⟩) (n+m) k) (w.drew.alloc (.cells vs el))∧n+m<=k∧k<=maxLen∧k*φ.size=vs.size∧vs.toList.take ((n+m)*φ.size)=xs++us:=by
 obtain⟨d',i,z,i1,i2,i3,i4,i5,i6,i7⟩:=hφ.get
 have hzs:z.cells.size=φ.size:=by rw[i7];simpa using hz0
 have h63':((n+m:Nat):Int)<=9223372036854775807:=by simp only[maxLen]at h63;omega
 have hlen:(xs++us).length=(n+m)*φ.size:=by rw[afP,hxl,hul,afT]
 have hge:=grownCap_ge w (n+m) cap el
 have hcm:grownCap w (n+m) cap el<=maxLen:=grownCap_le_maxLen w (n+m) cap el h63
 have fin:∀vs:Array Value,vs=xs.toArray++us.toArray++Builtin.zeroCells z.cells (grownCap w (n+m) cap el-(n+m))->grownCap w (n+m) cap el*φ.size=vs.size∧vs.toList.take ((n+m)*φ.size)=xs++us:=by
  intro vs hvs
  subst hvs
  refine⟨?_,?_⟩
  ·simp only[afY,afZ,size_zeroCells,hzs,hxl,hul,<- afT]
   congr 1
   omega
  ·simp only[af0,af1]
   rw[<- af1,<- hlen]
   exact List.take_left
 cases A with
 | some ad =>
  have hr:=run_append_grow (P:=P) w t ty el i z hd i3 i6 ad n cap xs (by rw[i4];exact hxl) (hxs ad rfl) b m c us (by rw[i4];exact hul) hus hg h63' (growslice_fits hg (by rw[i5];exact hb))
  obtain⟨f1,f2⟩:=fin _ rfl
  exact⟨_,_,hr,hge,hcm,f1,f2⟩
 | none =>
  obtain⟨rfl,rfl⟩:=hA rfl
  have hx0:xs=[]:=afW (by omega)
  subst hx0
  have hr:=run_append_nil (P:=P) w t ty el i z hd i3 i6 b m c us (by rw[i4];exact hul) hus (by omega) (by simpa using h63') (by rw[i5];simp only[afB]at hb;omega)
  simp only[afB]at hge hcm fin ⊢
  obtain⟨f1,f2⟩:=fin _ rfl
  refine⟨_,_,hr,hge,hcm,?_,?_⟩
  ·simpa using f1
  ·simpa using f2
theorem F0 (t ty el:Nat) {φ:Ty} (hd:P.underlying t=some (.slice el)) (hφ:gA P el φ) (g q n cap:Nat) (cur:Array Value) (hg:w.heap[g]? = some (.cells cur el (0,0))) (b:Addr) (m c:Nat) (us:List Value) (hul:us.length=m*φ.size)
  (hus:∀j u,us[j]? = some u->w.cell? (b.add j)=some u) (h1:∀u∈us,u.oneCell'=true) (hroom:n+m<=cap) (hfit:q+n*φ.size+us.length<=cur.size) :
  (Builtin.append_ #[t,t] ty #[.slice (some ⟨g,q,none⟩) n cap,.slice (some b) m c]).run P w =
   .ok (.slice (some ⟨g,q,none⟩) (n+m) cap) (w.setRow g (cur.toList.take (q+n*φ.size)++us++cur.toList.drop (q+n*φ.size+us.length)).toArray):=by
 obtain⟨d',i,z,i1,i2,i3,i4,i5,i6,i7⟩:=hφ.get
 have hf:=run_firstCells_some (P:=P) w i.size m b m c us (by rw[i4];exact hul) hus
 have hst:=run_storeCells_at P g (q+n*i.size) el us 0 cur w hg (by rw[i4];simpa using hfit) h1
 simp only[Nat.add_zero]at hst
 rw[<- i4]
 simp[Builtin.append_,run_underlying hd,sizeOf,typeInfo,i3,Builtin.lenOf,hroom,hf,pf,hst]
theorem zL {α:Type} (l us rest:List α) (b k:Nat) (h:b+k<=l.length):((l.take (b+k)++us++rest).drop b).take (k+us.length)=(l.drop b).take k++us:=by
 have h1:((l.drop b).take k).length=k:=by simp;omega
 rw[af1,af2 (by simp;omega),List.drop_take,af3,af4,h1,af3,af5 (aeO _),af6 (l:=us) (aeO _),af6 (by rw[h1];omega)]
theorem L6 (hT:kq P T) (hI:Inv N M L w0 blk V t h a w) {c:Call} {s x:Operand} {ty d:Nat} {τ:Ty} {E:bM} (ho:o.op=.call c) (hc:c.callee=.builtin .append) (hargs:c.args = #[s,x]) (htys:c.argTypes = #[ty,ty]) (hd:o.dst=some d)
  (hV:kp N V d e) (hτ:T ty=some τ) (hE:ji T τ h e d (ev t s) (ev t x)=some E):eK P o a w (aZ N M L w0 V t h a e o.dst E):=by
 have hps:=hI.ev s
 have hpx:=hI.ev x
 generalize ev t s=qs at *
 generalize ev t x=qx at *
 obtain⟨dd,hdd,hcv⟩:=under hT hτ
 have hexec:∀v w',(Builtin.append_ #[ty,ty] o.type #[a.eval s,a.eval x]).run P w=.ok v w'->(execOp a.eval o).run P w=.ok (.value v) w':=by
  intro v w' hr
  simp[execOp,ho,resolve,hc,hargs,htys,invoke,builtin,hr]
 unfold ji at hE
 split at hE
 ·rename_i el hds
  rw[hds]at hcv
  have:=fi hcv
  subst this
  split at hE
  ·rename_i φ m news hφ hcont
   split at hE
   ·rename_i hpos
    have grow:∀(old:Option Nat) (A:Option Addr) (n cap:Nat) (xs:List Value) (olds:List D),(∀y,old=some y->∃r,h y=some r∧r.fz=false)->a.eval s=.slice A n cap->n<=cap->(A=none->n=0∧cap=0)->xs.length=n*φ.size->olds.length=xs.length ->
      (∀ad,A=some ad->∀j u,xs[j]? = some u->w.cell? (ad.add j)=some u)->(∀(j:Nat) x,olds[j]? = some x->aU x=true∧RP w (Own M h blk) x (xs.getD j undef))->cap<n+m->n+m<=maxLen->(n+m)*φ.bytes<=140737488355328->news.length=m*φ.size ->
      E=⟨.buf d e φ.size 0 (n+m),(match old with|some y=>[(y,none)]|none=>[])++[(d,some ⟨e,el,olds++news,false,true,false⟩)]⟩->eK P o a w (aZ N M L w0 V t h a e o.dst E):=by
     intro old A n cap xs olds hold hs hnc hA hxl hol hxs holds hgt h63 hby hnl hEq
     obtain⟨B,cb,us,hx1,hxle,hx2,hx3,hx4,hx5⟩:=hI.content hpos.1 hcont hnl hpx
     cases B with
     | none =>
      have:=(hx5 rfl).1
      subst this
      omega
     | some b =>
      obtain⟨k,vs,hrun,g1,g2,g3,g4⟩:=E1 (P:=P) (w:=w) ty o.type el hdd (hT el φ hφ) hpos.1 hpos.2 A n cap xs hxl hxs hA b m cb us (by omega) (hx4 b rfl) hgt h63 hby
      have hb:Below w.heap.size w (w.drew.alloc (.cells vs el)):=((Below.refl _ _).drew).alloc (by simp) _
      refine aE (hexec _ _ (by rw[hs,hx1];exact hrun)) ?_
      have:=hI.fresh (old:=old) (dst:=o.dst) (e:=e) (d:=d) (ty:=el) (s:=φ.size) (n:=n+m) (cells:=olds++news) (w':=w.drew.alloc (.cells vs el)) (v := .slice (some ⟨w.heap.size,0,none⟩) (n+m) k) hd hV (dp.rm hb) hold
       (.inl ⟨(w.heap.size,0),k,vs,rfl,.inl (aeO _),by simpa using heap_alloc_new w.drew (.cells vs el),g1,g2,by simpa using g3,?_,fun j y hj =>?_⟩)
      ·subst hEq
       unfold aZ
       cases old with
       | none=>exact this
       | some y=>exact this
      ·simp only[afB,afP,hol,hxl,hnl,<- afT]
       rw[<- g3]
       exact afA _ g1
      ·have hA':=KW (b:=0) (M':=Own M h blk) (w:=w) (olds:=olds) (news:=news) (xs:=xs) (us:=us) (cur:=vs) hol.symm hx2 (by rw[af7,hol,hxl,hnl,<- afT];exact g4) holds hx3 j y hj
       simp only[afB]at hA' ⊢
       refine⟨hA'.1,hA'.2.keep fun b k1 k2=>⟨aeR k1 hb.size,fun hb' =>?_,hb.block b k1⟩⟩
       rcases hb' with hb'|rfl
       ·exact k2 (xA hb')
       ·omega
    split at hE
    ·rename_i nl tight n xs
     split at hE
     ·rename_i hcond
      obtain⟨k1,k2,k3,k4,k5⟩:=hcond
      split at hE
      ·rename_i hm
       subst hm
       simp only[aeX]at hE
       subst hE
       obtain⟨A,cx,us,hx1,hxle,hx2,hx3,hx4,hx5⟩:=hI.content hpos.1 hcont k5 hpx
       obtain⟨B,cb,xs',hs1,hsle,_⟩:=hI.content (d := .sl nl tight n xs) hpos.1 rfl k4 hps
       refine aE (hexec _ _ (by rw[hs1,hx1];exact oc (τ:=τ) ty o.type el hdd (hT el φ hφ) B A n cb cx hsle)) (aZ.dA hI ?_)
       rw[<- hs1];exact hps
      ·rename_i hm
       simp only[aeX]at hE
       obtain⟨B,cb,xs',hs1,hsle,hs2,hs3,hs4,hs5⟩:=hI.content (d := .sl nl tight n xs) hpos.1 rfl k4 hps
       have hcap:cb=n:=by
        have hps':RP w (Own M h blk) (.sl nl tight n xs) (a.eval s):=hps
        generalize a.eval s=u at *
        cases hps' with
        | sl A' c' nl tight n xs us' h1 h2 h3 h4 h5 h6 h7 h8 =>
         simp only[Value.slice.injEq]at hs1
         obtain⟨_,_,rfl⟩:=hs1
         exact h5 k1
       subst hcap
       exact grow none B cb cb xs' xs (fun y hy=>by cases hy) hs1 hsle (fun h=>(hs5 h)) (by omega) (by omega) hs4 hs3 (by omega) k2 k3 k5 hE.symm
     ·cases hE
    ·rename_i y v zz q n
     split at hE
     ·rename_i r hlv
      split at hE
      ·rename_i hcond
       obtain⟨k1,k2,k3,k4,k5,k6,k7⟩:=hcond
       subst k1
       simp only[aeX]at hE
       obtain⟨hyy,hyv⟩:=bS hlv
       have hcont':Am.content h (.buf y v φ.size q n)=some (n,(r.cells.drop q).take (n*φ.size)):=by simp only[Am.content,hlv,if_pos k4]
       have hol:((r.cells.drop q).take (n*φ.size)).length=n*φ.size:=by simp;omega
       obtain⟨B,cb,xs',hs1,hsle,hs2,hs3,hs4,hs5⟩:=hI.content hpos.1 hcont' hol hps
       by_cases hroom:n+m<=cb
       ·obtain⟨A,cx,us,hx1,hxle,hx2,hx3,hx4,hx5⟩:=hI.content hpos.1 hcont k7 hpx
        have empty:cb=0->eK P o a w (aZ N M L w0 V t h a e o.dst E):=by
         intro h0
         have hn0:n=0:=by omega
         have hm0:m=0:=by omega
         subst hn0 hm0 h0
         have hnews:news=[]:=afW (by omega)
         subst hE hnews
         refine aE (hexec _ _ (by rw[hs1,hx1];exact oc (τ:=τ) ty o.type el hdd (hT el φ hφ) B A 0 0 cx (aeO _))) ?_
         have:=hI.fresh (old:=some y) (dst:=o.dst) (e:=e) (d:=d) (ty:=el) (s:=φ.size) (n:=0) (cells:=[]) (w':=w) (v := .slice B 0 0) hd hV (dp.refl _ _) (fun y' hy'=>by cases hy';exact⟨r,hyy,k3⟩) (.inr ⟨rfl,rfl,B,rfl⟩)
         unfold aZ
         have e0:(r.cells.drop q).take (0*φ.size)++[]=[]:=by simp
         rw[e0]
         exact this
        rcases hI.xU hlv hps with⟨g,o',cb',cs,g0,g1,g2,g3,g4,g5,g7,g8⟩|⟨g0,g1,g2,A',g3⟩
        ·have hcb:cb'=cb:=by rw[g1]at hs1;simp at hs1;exact hs1.2
         subst hcb
         by_cases hcq:0<cb'∨q=0
         ·obtain⟨ho',hcs⟩:=g5 hcq
          subst ho'
          have hfit0:(n+m)*φ.size<=cb'*φ.size:=afA _ hroom
          rw[afT]at hfit0
          have hfit:g.2+q+n*φ.size+us.length<=cs.size:=by omega
          have hxl2:((cs.toList.drop (g.2+q)).take (n*φ.size)).length=n*φ.size:=by simp;omega
          have hrun:∃cur,(Builtin.append_ #[ty,ty] o.type #[a.eval s,a.eval x]).run P w=.ok (.slice (some ⟨g.1,g.2+q,none⟩) (n+m) cb') (w.setRow g.1 cur)∧cur.size=cs.size∧(cur.toList.drop (g.2+q)).take (n*φ.size+m*φ.size)=(cs.toList.drop (g.2+q)).take (n*φ.size)++us:=by
           rw[hx1,g1]
           cases A with
           | some ad =>
            refine⟨_,F0 (P:=P) ty o.type el hdd (hT el φ hφ) g.1 (g.2+q) n cb' cs (by rw[<- k2];exact g4) ad m cx us (by omega) (hx4 ad rfl) (XW hx2 hx3) hroom hfit,by simp;omega,?_⟩
            have:=zL cs.toList us (cs.toList.drop (g.2+q+n*φ.size+us.length)) (g.2+q) (n*φ.size) (by simp;omega)
            have hul:us.length=m*φ.size:=by omega
            rw[hul]at this
            rw[hul]
            exact this
           | none =>
            obtain⟨rfl,rfl⟩:=hx5 rfl
            have hu0:us=[]:=afW (by omega)
            subst hu0
            refine⟨cs,?_,rfl,by simp⟩
            rw[setRow_self w g.1 cs r.ty (0,0) g4]
            exact oc (τ:=τ) ty o.type el hdd (hT el φ hφ) _ _ n cb' 0 g2
          obtain⟨cur,hrun,hcur,htake⟩:=hrun
          subst hE
          have hown:Own M h blk g.1 := .inr ⟨y,r,g,hyy,k3,g0,rfl⟩
          have hheap:∀b,b≠g.1->(w.setRow g.1 cur).heap[b]? = w.heap[b]?:=by
           intro b hb
           simp only[World.setRow,aeY]
           rw[if_neg (Ne.symm hb)]
          have hsize:(w.setRow g.1 cur).heap.size=w.heap.size:=by simp[World.setRow]
          refine aE (hexec _ _ hrun) ?_
          have:=hI.fresh (old:=some y) (dst:=o.dst) (e:=e) (d:=d) (ty:=el) (s:=φ.size) (n:=n+m) (cells:=(r.cells.drop q).take (n*φ.size)++news) (w':=w.setRow g.1 cur) (v := .slice (some ⟨g.1,g.2+q,none⟩) (n+m) cb') hd hV
           ⟨rfl,rfl,rfl,by rw[hsize];exact aeO _,fun b _ hb=>hheap b (fun he=>hb ⟨y,g,rfl,g0,he⟩)⟩ (fun y' hy'=>by cases hy';exact⟨r,hyy,k3⟩)
           (.inl ⟨(g.1,g.2+q),cb',cur,rfl,.inr ⟨y,g,rfl,g0,rfl⟩,by rw[<- k2];exact setRow_heap w g.1 cs cur r.ty (0,0) g4,hroom,g3,by rw[hcur];exact hcs,by simp only[afP,hol];omega,fun j z hj =>?_⟩)
          ·unfold aZ
           exact this
          ·have hA':=KW (b:=g.2+q) (M':=Own M h blk) (w:=w) (olds:=(r.cells.drop q).take (n*φ.size)) (news:=news) (xs:=(cs.toList.drop (g.2+q)).take (n*φ.size)) (us:=us) (cur:=cur) (by rw[hol,hxl2]) hx2 (by rw[hol,k7];exact htake)
            (fun j z hj=>by
             rw[cc]at hj
             split at hj
             ·rename_i hjl
              have:=g8 _ _ hj
              have he:((cs.toList.drop (g.2+q)).take (n*φ.size)).getD j undef=cs.getD (g.2+(q+j)) undef:=by
               simp only[afr,cc,if_pos hjl,ae9]
               simp
              rw[he];exact this
             ·cases hj) hx3 j z hj
           refine⟨hA'.1,hA'.2.keep fun b q1 q2=>⟨by rw[hsize];exact q1,?_,hheap b (fun he=>q2 (he ▸ hown))⟩⟩
           rintro (hb|rfl)
           ·exact q2 (xA hb)
           ·exact q2 hown
         ·exact empty (by omega)
        ·rw[g3]at hs1
         simp only[Value.slice.injEq]at hs1
         exact empty (by omega)
       ·exact grow (some y) B n cb xs' _ (fun y' hy'=>by cases hy';exact⟨r,hyy,k3⟩) hs1 hsle (fun h=>(hs5 h)) (by omega) (by omega) hs4 hs3 (by omega) k5 k6 k7 hE.symm
      ·cases hE
     ·cases hE
    ·cases hE
   ·cases hE
  ·cases hE
 ·cases hE
end
section
variable {P:Program} {T:Nat->Option Ty} {N:Nat} {M:Nat->Prop} {L:ky} {w0:World} {blk:Nat->Option (Nat×Nat)} {V:Nat->Nat->Prop} {t:Nat->D} {h:Nat->Option Row} {a:Act} {w:World} {e:Nat} {o:Oper} {Γ:Env}
theorem O0 {s:Ds} {x:D} (hk:kindOk s x=true):s.oQ=false∧kM s=true:=by
 cases s<;>cases x<;>simp[kindOk]at hk<;>exact⟨rfl,rfl⟩
theorem E2 (hT:kq P T) (n:Nat) {M':Nat->Prop} {us vs:List Value} : ∀(F:List Field) (o:Nat) (xs ys:List D) (b:Bool),(∀f∈F,f.name ≠ "_")->fk T o (F.map fun f=>(f.type,f.offset)) xs=true->UL xs ys=some b ->
  (∀j x,xs[j]? = some x->RP w M' x (us.getD (o+j) undef)∧o+j<us.length)->(∀j y,ys[j]? = some y->RP w M' y (vs.getD (o+j) undef)∧o+j<vs.length) ->
  (forIn F ((none,()):Option Bool×Unit) fun f __s =>
   if f.name ≠ "_" then do
    let __do_lift <- part f.type us.toArray f.offset
    let __do_lift_1 <- part f.type vs.toArray f.offset
    let __do_lift <- Op.equalIn (n+1) f.type __do_lift __do_lift_1
    if (!__do_lift)=true then pure (ForInStep.done (some false,())) else pure (ForInStep.yield (none,()))
   else (pure (ForInStep.yield (none,())):Sem _)).run P w=.ok (if b then (none,()) else (some false,())) w
 | [],o,xs,ys,b,hn,hf,he,hx,hy=>by
  cases xs with
  | nil =>
   cases ys with
   | nil =>
    simp only[UL,aeX]at he
    subst he
    rfl
   | cons y ys=>simp[UL]at he
  | cons x xs=>simp[fk]at hf
 | f::F,o,xs,ys,b,hn,hf,he,hx,hy=>by
  cases xs with
  | nil=>simp[fk]at hf
  | cons x xs =>
   cases ys with
   | nil=>simp[UL]at he
   | cons y ys =>
    simp only[aeU,fk,afp,beq_iff_eq]at hf
    obtain⟨⟨h1,h2⟩,h3⟩:=hf
    simp only[UL]at he
    split at he
    ·rename_i b1 b2 hb1 hb2
     simp only[aeX]at he
     subst he
     split at h2
     ·rename_i φ hφ
      obtain⟨hx1,hx2⟩:=hx 0 x rfl
      obtain⟨hy1,hy2⟩:=hy 0 y rfl
      rw[afn]at hx1 hx2 hy1 hy2
      obtain⟨hA,hS⟩:=O0 h2
      have hp1:(part f.type us.toArray f.offset).run P w=.ok (us.getD o undef) w:=by
       have hg:us.toArray[f.offset]? = some (us.getD o undef):=by rw[h1];simp[List.getD,ae1 hx2]
       simp only[part,afl,oW (hT _ _ hφ),hA,Result.andThen_ok,afo,if_false,hg]
       rfl
      have hp2:(part f.type vs.toArray f.offset).run P w=.ok (vs.getD o undef) w:=by
       have hg:vs.toArray[f.offset]? = some (vs.getD o undef):=by rw[h1];simp[List.getD,ae1 hy2]
       simp only[part,afl,oW (hT _ _ hφ),hA,Result.andThen_ok,afo,if_false,hg]
       rfl
      have heq:=(Z8 hT hφ hS hx1 hy1 hb1 n).2 (UK hb1 h2)
      have ih:=E2 hT n F (o+1) xs ys b2 (fun g hg=>hn g (by simp[hg])) h3 hb2 (fun j z hj=>by have:=hx (j+1) z hj;rwa [show o+(j+1)=o+1+j by omega]at this) (fun j z hj=>by have:=hy (j+1) z hj;rwa [show o+(j+1)=o+1+j by omega]at this)
      rw[List.forIn_cons]
      simp only[afl]
      rw[if_pos (hn f (by simp))]
      simp only[afl,hp1,Result.andThen_ok,hp2,heq]
      cases b1 with
      | false=>rfl
      | true =>
       simp only[af8,afo,if_false,Sem.run_pure,Result.andThen_ok,af9]
       exact ih
     ·cases h2
    ·cases he
theorem run_equalIn_bool (n:Nat) {ty:Nat} (hd:P.underlying ty=some .bool) (i j:Bool):(Op.equalIn (n+1) ty (.bool i) (.bool j)).run P w=.ok (i==j) w:=by
 simp[Op.equalIn,run_underlying hd]
theorem run_equalIn_struct (n:Nat) {ty:Nat} {F:Array Field} (hd:P.underlying ty=some (.struct F)) (q1:P.stoodInHeld ty=false) {us vs:List Value} {b:Bool}
  (hloop:(forIn F.toList ((none,()):Option Bool×Unit) fun f __s =>
   if f.name ≠ "_" then do
    let __do_lift <- part f.type us.toArray f.offset
    let __do_lift_1 <- part f.type vs.toArray f.offset
    let __do_lift <- Op.equalIn (n+1) f.type __do_lift __do_lift_1
    if (!__do_lift)=true then pure (ForInStep.done (some false,())) else pure (ForInStep.yield (none,()))
   else (pure (ForInStep.yield (none,())):Sem _)).run P w=.ok (if b then (none,()) else (some false,())) w) :
  (Op.equalIn (n+1+1) ty (.agg us.toArray) (.agg vs.toArray)).run P w=.ok b w:=by
 have hprog:(program:Sem Program).run P w=.ok P w:=rfl
 rw[Op.equalIn]
 simp only[afl,run_underlying hd,Result.andThen_ok,hprog,q1,afo,if_false]
 rw[<- Array.forIn_toList,hloop]
 cases b<;>rfl
theorem TM (hT:kq P T) (hI:Inv N M L w0 blk V t h a w) {ty:Nat} {τ:Ty} (hτ:T ty=some τ) {x y:D} {u v:Value} {b:Bool} (hx:RT w (Own M h blk) h blk V x u) (hy:RT w (Own M h blk) h blk V y v) (hb:VN T τ x y=some b) :
  (Op.equal ty u v).run P w=.ok b w∧(∀(p q:Operand) (op:BinOp),(eqGuard op ty p q u v).run P w=.ok () w)∧(∀op,op=.eql∨op=.neq->binOp op ty u v=(match op with | .eql=>(do pure (.bool (<- Op.equal ty u v)):Sem Value)|_=>do pure (.bool (!(<- Op.equal ty u v))))):=by
 obtain⟨d,hd,hc⟩:=under hT hτ
 unfold VN at hb
 split at hb
 ·rename_i i j
  have hu:=vl hx
  have hv:=vl hy
  subst hu hv
  split at hb
  ·rename_i hds
   rw[hds]at hc
   have:=vu hc
   subst this
   simp only[aeX]at hb
   subst hb
   refine⟨run_equalIn_bool 9999 hd i j,fun p q op=>by cases op<;>rfl,fun op hop =>?_⟩
   rcases hop with rfl|rfl<;>rfl
  ·cases hb
 ·rename_i nl tg n xs
  have hx':RP w (Own M h blk) (.sl nl tg n xs) u:=hx
  have hy':RP w (Own M h blk) (.sl true true 0 []) v:=hy
  split at hb
  ·rename_i el hds
   rw[hds]at hc
   have:=fi hc
   subst this
   cases hy' with
   | sl A c _ _ _ _ us h1 h2 h3 h4 h5 h6 h7 h8 =>
    obtain⟨rfl,rfl⟩:=(h3 rfl).1 rfl
    cases hx' with
    | sl B c' _ _ _ _ us' g1 g2 g3 g4 g5 g6 g7 g8 =>
     have hr:=run_equal_slice_nil (P:=P) w ty el B n c' hd
     refine⟨?_,fun p q op=>by cases op<;>rfl,fun op hop =>?_⟩
     ·rw[hr]
      have hB:B.isNone=b:=by
       unfold ZU at hb
       split at hb
       ·rename_i hpos
        simp only[aeX]at hb
        subst hb
        cases B with
        | none=>have:=(g4 rfl).1;omega
        | some _=>rfl
       ·split at hb
        ·rename_i hnl
         simp only[aeX]at hb
         subst hb
         cases htg:tg with
         | true=>rw[((g3 hnl).1 htg).1];rfl
         | false =>
          cases B with
          | none=>exact absurd rfl ((g3 hnl).2 htg)
          | some _=>rfl
        ·cases hb
      rw[<- hB]
     ·rcases hop with rfl|rfl<;>rfl
  ·cases hb
 ·rename_i xs ys
  have hx':RP w (Own M h blk) (.agg xs) u:=hx
  have hy':RP w (Own M h blk) (.agg ys) v:=hy
  split at hb
  ·rename_i fs hds
   rw[hds]at hc
   obtain⟨F,rfl,hF⟩:=iE hc
   split at hb
   ·rename_i hcond
    simp only[afp]at hcond
    obtain⟨q1,q2,q3⟩:=(hT ty τ hτ).eqs hcond.1
    rw[hd]at q3
    simp only at q3
    cases hx' with
    | agg xs us h1 h2 h3 =>
     cases hy' with
     | agg ys vs g1 g2 g3 =>
      have hnames:∀f∈F.toList,f.name ≠ "_":=by
       intro f hf
       have:=Array.all_eq_true_iff_forall_mem.1 q3 f (by simpa using hf)
       simpa using this
      have hloop:=E2 (P:=P) (w:=w) hT 9998 (M':=Own M h blk) (us:=us) (vs:=vs) F.toList 0 xs ys b hnames (by rw[hF];exact hcond.2) hb
       (fun j x hj=>by rw[afB];exact⟨h2 j x hj,by have:=(afh.1 hj).1;omega⟩) (fun j x hj=>by rw[afB];exact⟨g2 j x hj,by have:=(afh.1 hj).1;omega⟩)
      refine⟨?_,fun p q op =>?_,fun op hop =>?_⟩
      ·exact run_equalIn_struct 9998 hd q1 hloop
      ·cases op<;>first|rfl|simp[eqGuard,program,Sem.run,q2]
      ·rcases hop with rfl|rfl<;>rfl
   ·cases hb
  ·cases hb
 ·cases hb
theorem PY (hT:kq P T) (hI:Inv N M L w0 blk V t h a w) {x y:Operand} {op:BinOp} {ty ty':Nat} {d:D} (ho:o.op=.binOp op ty x y ty') (hd:zJ T ty op (ev t x) (ev t y)=some d):eK P o a w (aZ N M L w0 V t h a e o.dst ⟨d,[]⟩):=by
 have hx:=hI.ev x
 have hy:=hI.ev y
 generalize ev t x=p at *
 generalize ev t y=q at *
 unfold zJ at hd
 split at hd
 ·rename_i k i k' j
  have hu:=k9 hx
  have hv:=k9 hy
  have hg:(eqGuard op ty x y (.int k i) (.int k' j)).run P w=.ok () w:=by cases op<;>rfl
  split at hd
  ·rename_i hs
   obtain⟨v,hr,hp⟩:=Rh (P:=P) (w:=w) (M:=Own M h blk) (ty:=ty) (k':=k') hs hd
   exact aE (by simp[execOp,ho,hu,hv,hg,hr]) (aZ.dA hI (bD hp))
  ·rename_i hs
   split at hd
   ·rename_i hk
    subst hk
    obtain⟨v,hr,hp⟩:=X8 (P:=P) (w:=w) (M:=Own M h blk) (ty:=ty) (by simpa using hs) hd
    exact aE (by simp[execOp,ho,hu,hv,hg,hr]) (aZ.dA hI (bD hp))
   ·cases hd
 ·rename_i s s'
  have hu:=Co hx
  have hv:=Co hy
  have hg:(eqGuard op ty x y (.string s) (.string s')).run P w=.ok () w:=by cases op<;>rfl
  obtain⟨v,hr,hp⟩:=Ya (P:=P) (w:=w) (M:=Own M h blk) (ty:=ty) hd
  exact aE (by simp[execOp,ho,hu,hv,hg,hr]) (aZ.dA hI (bD hp))
 ·split at hd
  ·rename_i τ hτ
   split at hd
   ·split at hd
    ·rename_i c hc
     simp only[aeX]at hd
     subst hd
     obtain⟨r1,r2,r3⟩:=TM (P:=P) hT hI hτ hx hy hc
     have hb:=r3 .eql (.inl rfl)
     exact aE (v := .bool c) (w':=w) (by simp[execOp,ho,r2,hb,r1]) (aZ.dA hI (bD (.bool _)))
    ·cases hd
   ·split at hd
    ·rename_i c hc
     simp only[aeX]at hd
     subst hd
     obtain⟨r1,r2,r3⟩:=TM (P:=P) hT hI hτ hx hy hc
     have hb:=r3 .neq (.inr rfl)
     exact aE (v := .bool !c) (w':=w) (by simp[execOp,ho,r2,hb,r1]) (aZ.dA hI (bD (.bool _)))
    ·cases hd
   ·cases hd
  ·cases hd
end
section
variable {P:Program} {T:Nat->Option Ty} {N:Nat} {M:Nat->Prop} {L:ky} {w0:World} {blk:Nat->Option (Nat×Nat)} {V:Nat->Nat->Prop} {t:Nat->D} {h:Nat->Option Row} {a:Act} {w:World} {e:Nat} {o:Oper} {Γ:Env}
theorem lv {α:Type} {c:Array α} {l:List α} (h:c.toList=l):c=l.toArray:=by rw[<- h]
theorem Tp {β:Type} {f:Operand->β} {l:List Operand} {p q:β} (h:l.map f=[p,q]):∃s x,l=[s,x]∧f s=p∧f x=q:=by
 match l,h with
 | [s,x],h=>simp only[aeU,afC,afc,and_true]at h;exact⟨s,x,rfl,h.1,h.2⟩
theorem ZR {β:Type} {f:Operand->β} {l:List Operand} {p:β} (h:l.map f=[p]):∃s,l=[s]∧f s=p:=by
 match l,h with
 | [s],h=>simp only[aeU,afC,afc,and_true]at h;exact⟨s,rfl,h⟩
theorem map_cons {β:Type} {f:Operand->β} {l:List Operand} {p:β} {r:List β} (h:l.map f=p::r):∃s l',l=s::l'∧f s=p∧l'.map f=r:=by
 match l,h with
 | s::l',h=>simp only[aeU,afc]at h;exact⟨s,l',rfl,h.1,h.2⟩
theorem Jl (hT:kq P T) (hI:Inv N M L w0 blk V t h a w) {c:Call} {b:Builtin} {E:bM} (ho:o.op=.call c) (hc:c.callee=.builtin b) (hV:∀d,o.dst=some d->kp N V d e)
  (hE:ca T h e o.dst b c.argTypes.toList (c.args.toList.map (ev t))=some E):eK P o a w (aZ N M L w0 V t h a e o.dst E):=by
 unfold ca at hE
 split at hE
 ·rename_i ty tys x htys hargs
  obtain⟨s,hs,rfl⟩:=ZR hargs
  have hs':=lv hs
  have ht':=lv htys
  split at hE
  ·rename_i hal
   split at hE
   ·rename_i τ n hτ hn
    have hp:=hI.ev s
    obtain⟨d,hd,hcv⟩:=under hT hτ
    obtain⟨l1,l2⟩:=RT.ad3 hI hn hal hp
    have hexec:∀v,(Builtin.len_ c.argTypes o.type #[a.eval s]).run P w=.ok v w->(execOp a.eval o).run P w=.ok (.value v) w:=by
     intro v hr
     simp[execOp,ho,resolve,hc,hs',invoke,builtin,hr]
    have ht0:c.argTypes[0]? = some ty:=by rw[ht'];rfl
    split at hE
    ·rename_i z hds hz
     rw[hz]at l1
     obtain⟨hu,hsz⟩:=l1 _ rfl
     rw[hds]at hcv
     have:=qW hcv
     subst this
     simp only[aeX]at hE
     subst hE
     refine aE (hexec (.int .i64 n) ?_) (aZ.dA hI (bD (.int _ _)))
     simp[Builtin.len_,ht0,run_underlying hd,hu,goInt,hsz]
    ·rename_i el z1 z2 z3 z4 hds hz
     obtain⟨A,k,hu⟩:=l2 (by rw[hz];intro s h;cases h)
     rw[hds]at hcv
     have:=fi hcv
     subst this
     simp only[aeX]at hE
     subst hE
     refine aE (hexec (.int .i64 n) ?_) (aZ.dA hI (bD (.int _ _)))
     simp[Builtin.len_,ht0,run_underlying hd,hu,goInt]
    ·rename_i el z1 z2 z3 z4 z5 hds hz
     obtain⟨A,k,hu⟩:=l2 (by rw[hz];intro s h;cases h)
     rw[hds]at hcv
     have:=fi hcv
     subst this
     simp only[aeX]at hE
     subst hE
     refine aE (hexec (.int .i64 n) ?_) (aZ.dA hI (bD (.int _ _)))
     simp[Builtin.len_,ht0,run_underlying hd,hu,goInt]
    ·cases hE
   ·cases hE
  ·cases hE
 ·rename_i ty ty' p q htys hargs
  obtain⟨s,x,hs,rfl,rfl⟩:=Tp hargs
  split at hE
  ·rename_i htt
   subst htt
   split at hE
   ·rename_i τ d hτ hd
    exact L6 hT hI ho hc (lv hs) (lv htys) hd (hV d hd) hτ hE
   ·cases hE
  ·cases hE
 ·rename_i k x r hargs
  obtain⟨s,l,hs,h1,h2⟩:=map_cons hargs
  split at hE
  ·rename_i z hz
   simp only[aeX]at hE
   subst hE
   have hu:a.eval s=.int k x:=by have:=hI.ev s;rw[h1]at this;exact k9 this
   have hr:=OW (P:=P) (w:=w) (M:=M) (blk:=blk) (V:=V) (h:=h) k r (l.map a.eval) x z hz (by rw[<- h2];simp) (fun j d hj=>by
    rw[<- h2,aeL]at hj
    cases hx:l[j]? with
    | none=>simp[hx]at hj
    | some y =>
     simp only[hx,Option.map_some,aeX]at hj
     subst hj
     have:(l.map a.eval).getD j undef=a.eval y:=by simp[List.getD,hx]
     rw[this];exact hI.ev y)
   refine aE (v := .int k z) (w':=w) ?_ (aZ.dA hI (bD (.int _ _)))
   have hargs':c.args.map a.eval=(Value.int k x::l.map a.eval).toArray:=by rw[lv hs];simp[hu]
   simp[execOp,ho,resolve,hc,hargs',invoke,builtin,Builtin.max_,hr]
  ·cases hE
 ·rename_i k x r hargs
  obtain⟨s,l,hs,h1,h2⟩:=map_cons hargs
  split at hE
  ·rename_i z hz
   simp only[aeX]at hE
   subst hE
   have hu:a.eval s=.int k x:=by have:=hI.ev s;rw[h1]at this;exact k9 this
   have hr:=OX (P:=P) (w:=w) (M:=M) (blk:=blk) (V:=V) (h:=h) k r (l.map a.eval) x z hz (by rw[<- h2];simp) (fun j d hj=>by
    rw[<- h2,aeL]at hj
    cases hx:l[j]? with
    | none=>simp[hx]at hj
    | some y =>
     simp only[hx,Option.map_some,aeX]at hj
     subst hj
     have:(l.map a.eval).getD j undef=a.eval y:=by simp[List.getD,hx]
     rw[this];exact hI.ev y)
   refine aE (v := .int k z) (w':=w) ?_ (aZ.dA hI (bD (.int _ _)))
   have hargs':c.args.map a.eval=(Value.int k x::l.map a.eval).toArray:=by rw[lv hs];simp[hu]
   simp[execOp,ho,resolve,hc,hargs',invoke,builtin,Builtin.min_,hr]
  ·cases hE
 ·cases hE
theorem V1 {h:Nat->Option Row} {d:D} {u:Value} {M':Nat->Prop} (hc:jC d=true) (hr:RT w M' h blk V d u):RC w M' h blk V d u:=by
 cases d with
 | buf _ _ _ _ _=>simp[jC]at hc
 | clo _ _ _=>simp[jC]at hc
 | und=>simp[jC]at hc
 | skp=>simp[jC]at hc
 | box1 _ _ _ _ _=>simp[jC]at hc
 | _=>exact hr
theorem Fw (hI:Inv N M L w0 blk V t h a w) {f:Nat} {first caps:Array Operand} (ho:o.op=.makeFunc (.func f) first caps) (hc:(first.toList.map (ev t)++caps.toList.map (ev t)).all jC=true) :
  eK P o a w (aZ N M L w0 V t h a e o.dst ⟨.clo f first.size (first.toList.map (ev t)++caps.toList.map (ev t)),[]⟩):=by
 refine aE (v := .func (.func f) (first.map a.eval) (caps.map a.eval)) (w':=w) ?_ (aZ.dA hI ?_)
 ·simp[execOp,ho,Instr.makeFunc]
 ·refine⟨first.toList.map a.eval++caps.toList.map a.eval,?_,by simp,fun j x hj =>?_⟩
  ·rw[List.take_left' (by simp),List.drop_left' (by simp),<- afG,<- afG]
  rw[aeZ]at hc
  have hcx:=hc x (afg hj)
  rw[<- aga,aeL,aeM]at hj
  obtain⟨q,hq,rfl⟩:=hj
  have:(first.toList.map a.eval++caps.toList.map a.eval).getD j undef=a.eval q:=by rw[<- aga];simp only[afr,aeL,hq];rfl
  rw[this]
  exact V1 hcx (hI.ev q)
theorem UF (hT:kq P T) (hΓ:bq P Γ) (hI:Inv N M L w0 blk V t h a w) (hV:∀d,o.dst=some d->kp N V d e) (hP:∀x v,V x v->x<N∨2*PK<=x) {E:bM} (hE:mG T Γ e o (ev t) h=some E):eK P o a w (aZ N M L w0 V t h a e o.dst E):=by
 unfold mG at hE
 split at hE
 ·rename_i x ho
  simp only[aeX]at hE;subst hE
  exact G3 hI (.inl ho)
 ·rename_i x ho
  exact WS hI ho hV hE
 ·rename_i c x y ho
  split at hE
  ·rename_i hc
   simp only[aeX]at hE;subst hE
   exact G4 (b:=true) hI ho hc
  ·rename_i hc
   simp only[aeX]at hE;subst hE
   exact G4 (b:=false) hI ho hc
  ·cases hE
 ·rename_i ty ho
  split at hE
  ·rename_i τ d hτ hd
   split at hE
   ·rename_i hz
    simp only[aeX]at hE;subst hE
    exact PX (hint:=Γ.hint) hT hI ho hd hτ (hV d hd) hz
   ·cases hE
  ·cases hE
 ·rename_i ty x ho
  split at hE
  ·rename_i d cs fr hd hc
   split at hE
   ·simp only[aeX]at hE;subst hE
    exact WU hI ho hd (hV d hd) hc
   ·cases hE
  ·cases hE
 ·rename_i ty p ho
  split at hE
  ·rename_i τ hτ
   exact ZA hT hI ho hτ hE
  ·cases hE
 ·rename_i ty p x ho
  split at hE
  ·rename_i τ hτ
   exact W0 hT hI hP ho hτ hE
  ·cases hE
 ·rename_i x ho
  exact WY hI ho hE
 ·rename_i ty x i ho
  split at hE
  ·rename_i τ hτ
   exact C8 hT hI ho hτ hE
  ·cases hE
 ·rename_i ty x i ho
  split at hE
  ·rename_i τ hτ
   exact PZ hT hI ho hτ hE
  ·cases hE
 ·rename_i ty x i ho
  split at hE
  ·rename_i τ hτ
   exact C9 hT hI ho hτ hE
  ·cases hE
 ·rename_i ty x i ho
  split at hE
  ·rename_i τ hτ
   exact P0 hT hI ho hτ hE
  ·cases hE
 ·rename_i ty x lo hi mx ho
  split at hE
  ·rename_i τ hτ
   exact P3 hT hI ho hτ hE
  ·cases hE
 ·rename_i ty parts ho
  split at hE
  ·rename_i τ hτ
   exact WT hT hI ho hτ hE
  ·cases hE
 ·rename_i ty len parts ho
  split at hE
  ·rename_i τ d hτ hd
   exact By hT hI ho hd (hV d hd) hτ hE
  ·cases hE
 ·rename_i ty l c ho
  split at hE
  ·rename_i τ d hτ hd
   exact UB hT hI ho hd (hV d hd) hτ hE
  ·cases hE
 ·rename_i op ty x y ty' ho
  split at hE
  ·rename_i d hd
   simp only[aeX]at hE;subst hE
   exact PY hT hI ho hd
  ·cases hE
 ·rename_i op ty x ho
  split at hE
  ·rename_i d hd
   simp only[aeX]at hE;subst hE
   exact UD hI ho hd
  ·cases hE
 ·rename_i src dst x ho
  split at hE
  ·rename_i τ k n σ hτ hσ hx
   split at hE
   ·rename_i k' hds
    simp only[aeX]at hE;subst hE
    exact Jm hT hI ho hτ hσ hds hx
   ·cases hE
  ·cases hE
 ·rename_i fn first caps ho
  split at hE
  ·split at hE
   ·rename_i hc
    simp only[aeX]at hE;subst hE
    exact Fw hI ho hc
   ·cases hE
  ·cases hE
 ·rename_i ty ho
  split at hE
  ·rename_i τ d hτ hd
   exact Jp hT hI ho hd (hV d hd) hτ hE
  ·cases hE
 ·rename_i ty m i ok ho
  split at hE
  ·rename_i τ hτ
   exact L7 hT hI ho hτ hE
  ·cases hE
 ·rename_i ty m i x ho
  split at hE
  ·rename_i τ hτ
   exact ui hT hI (.inr ho) hτ hE
  ·cases hE
 ·rename_i ty m i x ho
  split at hE
  ·rename_i τ hτ
   exact ui hT hI (.inl ho) hτ hE
  ·cases hE
 ·rename_i x i ho
  split at hE
  ·rename_i xs hx
   split at hE
   ·rename_i d hd
    simp only[aeX]at hE;subst hE
    exact Jn hI ho hx hd
   ·cases hE
  ·cases hE
 ·rename_i c ho
  split at hE
  ·rename_i f hc
   exact Uz hΓ hI ho hc hV hP hE
  ·rename_i b hc
   exact Jl hT hI ho hc hV hE
  ·cases hE
 ·cases hE
end
section
variable {T:Nat->Option Ty} {h h':Nat->Option Row} {e:Nat} {o:Oper} {Γ:Env}
theorem cm {x v:Nat} (hx:h x=h' x):live h x v=live h' x v:=by simp[live,hx]
theorem jO {x v:Nat} (hx:h x=h' x):nL h x v=nL h' x v:=by simp[nL,hx]
theorem nM {x v:Nat} (hx:h x=h' x):iH h x v=iH h' x v:=by simp[iH,hx]
theorem lX {d:D} (hx:∀x∈nm d,h x=h' x):cX h d=cX h' d:=by
 cases d<;>try rfl
 rename_i x v s o n
 simp only[cX]
 rw[cm (hx x (by simp[nm,hZ]))]
theorem Fv {d:D} (hx:∀x∈nm d,h x=h' x):content h d=content h' d:=by
 cases d<;>try rfl
 rename_i x v s o n
 simp only[content]
 rw[cm (hx x (by simp[nm,hZ]))]
theorem sa {d:D} (hx:∀x∈nm d,h x=h' x):ee h d=ee h' d:=by
 cases d<;>first|rfl|(simp only[ee];rw[lX hx])
theorem ua {d:D} (hx:∀x∈hZ d,h x=h' x):aR h d=aR h' d:=by
 cases d<;>try rfl
 ·simp only[aR]
  rw[cm (hx _ (by simp[hZ]))]
 ·simp only[aR]
  rw[lX (d := .buf _ _ _ _ _) hx]
 ·simp only[aR]
  rw[lX (d := .buf _ _ _ _ _) hx]
 ·simp only[aR]
  rw[nM (hx _ (by simp[hZ]))]
 ·rename_i x v y
  simp only[aR]
  rw[cm (hx x (by simp[hZ]))]
  have hl:∀v',iH h y v'=iH h' y v':=fun v'=>nM (hx y (by simp[hZ]))
  simp only[hl]
theorem s9:∀ {ds:List D},(∀d∈ds,∀x∈hZ d,h x=h' x)->cF h ds=cF h' ds
 | [],_=>rfl
 | d::ds,hx=>by
  simp only[cF]
  rw[ua (hx d (by simp)),s9 (fun d' hd'=>hx d' (by simp[hd']))]
theorem tZ (h:Nat->Option Row) {d:D} (hd:∀f kk xs,d ≠ .clo f kk xs):bE h d=aR h d:=by cases d<;>first|rfl|exact absurd rfl (hd _ _ _)
theorem Tv {d:D} (hd:∀f kk xs,d ≠ .clo f kk xs):nm d=hZ d:=by cases d<;>first|rfl|exact absurd rfl (hd _ _ _)
theorem WD (d:D):(∃f kk xs,d=.clo f kk xs)∨∀f kk xs,d ≠ .clo f kk xs:=by
 cases d<;>first|exact .inl ⟨_,_,_,rfl⟩|exact .inr (fun _ _ _ h=>by cases h)
theorem CS {d:D} (hx:∀x∈nm d,h x=h' x):bE h d=bE h' d:=by
 rcases WD d with⟨f,kk,xs,rfl⟩|hd
 ·simp only[bE]
  rw[s9 (fun d hd x hxd=>hx x (agb.2 ⟨d,hd,hxd⟩))]
 ·rw[Tv hd]at hx
  rw[tZ h hd,tZ h' hd]
  exact ua hx
theorem iW:∀ {ds:List D},(∀d∈ds,∀x∈nm d,h x=h' x)->bk h ds=bk h' ds
 | [],_=>rfl
 | d::ds,hx=>by
  simp only[bk]
  rw[CS (hx d (by simp)),iW (fun d' hd'=>hx d' (by simp[hd']))]
theorem j7 {fr:List Nat} (hx:∀x∈fr,h x=h' x):iX h fr=iX h' fr:=by
 unfold iX
 exact agc fun x hxm=>by rw[hx x hxm]
theorem qV {d d':D} {fr:List Nat} (hc:cX h d=some (d',fr)):∀x∈fr,x∈nm d:=by
 cases d<;>simp only[cX,aeX,Prod.mk.injEq]at hc<;>try (cases hc;done)
 ·obtain⟨_,rfl⟩:=hc;simp
 ·obtain⟨_,rfl⟩:=hc;simp
 ·obtain⟨_,rfl⟩:=hc;simp
 ·obtain⟨_,rfl⟩:=hc;simp
 ·split at hc
  ·split at hc
   ·simp only[aeX,Prod.mk.injEq]at hc
    obtain⟨_,rfl⟩:=hc
    simp[nm,hZ]
   ·cases hc
  ·cases hc
theorem qU {d : D} {cs : List D} {fr : List Nat} (hc : ee h d = some (cs, fr)) : ∀ x ∈ fr, x ∈ nm d := by
  cases d <;> simp only [ee] at hc <;> first
    | (simp only [aeX, Prod.mk.injEq] at hc; obtain ⟨_, rfl⟩ := hc; simp; done)
    | (split at hc
       · rename_i h1
         simp only [aeX, Prod.mk.injEq] at hc
         obtain ⟨_, rfl⟩ := hc
         exact qV h1
       · cases hc)
theorem AI {d d':D} {fr:List Nat} (hc:aR h d=some (d',fr)):∀x∈fr,x∈hZ d:=by
 have one:∀d,(∀f kk xs,d ≠ .clo f kk xs)->aR h d=(match cX h d with|some (d',fr)=>some (canon d',fr)|none=>none)->aR h d=some (d',fr)->∀x∈fr,x∈hZ d:=by
  intro d hne he hc
  rw[he]at hc
  split at hc
  ·rename_i h1
   simp only[aeX,Prod.mk.injEq]at hc
   obtain⟨_,rfl⟩:=hc
   intro x hx
   have:=qV h1 x hx
   cases d<;>first|exact this|exact absurd rfl (hne _ _ _)
  ·cases hc
 cases d with
 | ptr x v o =>
  simp only[aR]at hc
  split at hc
  ·split at hc
   ·simp only[aeX,Prod.mk.injEq]at hc
    obtain⟨_,rfl⟩:=hc
    simp[hZ]
   ·cases hc
  ·cases hc
 | agg xs=>simp only[aR,aeX,Prod.mk.injEq]at hc;obtain⟨_,rfl⟩:=hc;simp
 | ip xs=>simp only[aR,aeX,Prod.mk.injEq]at hc;obtain⟨_,rfl⟩:=hc;simp
 | fn f=>simp only[aR,aeX,Prod.mk.injEq]at hc;obtain⟨_,rfl⟩:=hc;simp
 | clo f kk xs=>simp[aR,cX]at hc
 | box1 x v s o n =>
  simp only[aR]at hc
  split at hc
  ·rename_i h1
   simp only[aeX,Prod.mk.injEq]at hc
   obtain⟨_,rfl⟩:=hc
   exact qV h1
  ·cases hc
 | mp x v =>
  simp only[aR]at hc
  split at hc
  ·simp only[aeX,Prod.mk.injEq]at hc
   obtain⟨_,rfl⟩:=hc
   simp[hZ]
  ·cases hc
 | mpc ks vs=>simp only[aR,aeX,Prod.mk.injEq]at hc;obtain⟨_,rfl⟩:=hc;simp
 | pm x v y =>
  simp only[aR]at hc
  split at hc
  ·split at hc
   ·split at hc
    ·split at hc
     ·simp only[aeX,Prod.mk.injEq]at hc
      obtain⟨_,rfl⟩:=hc
      simp[hZ]
     ·cases hc
    ·cases hc
   ·cases hc
  ·cases hc
 | _=>exact one _ (fun _ _ _ h=>by cases h) rfl hc
theorem xV:∀ {ds ds':List D} {fr:List Nat},cF h ds=some (ds',fr)->∀x∈fr,x∈ds.flatMap hZ
 | [],ds',fr,hc,x,hx=>by
  simp only[cF,aeX,Prod.mk.injEq]at hc
  obtain⟨_,rfl⟩:=hc
  simp at hx
 | d::ds,ds',fr,hc,x,hx=>by
  simp only[cF]at hc
  split at hc
  ·rename_i h1
   split at hc
   ·rename_i h2
    simp only[aeX,Prod.mk.injEq]at hc
    obtain⟨_,rfl⟩:=hc
    rw[List.flatMap_cons]
    rcases afV.1 hx with hx|hx
    ·exact ae2 _ (AI h1 x hx)
    ·exact ae3 _ (xV h2 x hx)
   ·cases hc
  ·cases hc
theorem LJ {d d':D} {fr:List Nat} (hc:bE h d=some (d',fr)):∀x∈fr,x∈nm d:=by
 rcases WD d with⟨f,kk,xs,rfl⟩|hd
 ·simp only[bE]at hc
  split at hc
  ·rename_i h1
   simp only[aeX,Prod.mk.injEq]at hc
   obtain⟨_,rfl⟩:=hc
   exact xV h1
  ·cases hc
 ·rw[Tv hd]
  rw[tZ h hd]at hc
  exact AI hc
theorem gJ:∀ {ds ds':List D} {fr:List Nat},bk h ds=some (ds',fr)->∀x∈fr,∃d∈ds,x∈nm d
 | [],ds',fr,hc,x,hx=>by
  simp only[bk,aeX,Prod.mk.injEq]at hc
  obtain⟨_,rfl⟩:=hc
  simp at hx
 | d::ds,ds',fr,hc,x,hx=>by
  simp only[bk]at hc
  split at hc
  ·rename_i h1
   split at hc
   ·rename_i h2
    simp only[aeX,Prod.mk.injEq]at hc
    obtain⟨_,rfl⟩:=hc
    rcases afV.1 hx with hx|hx
    ·exact⟨d,by simp,LJ h1 x hx⟩
    ·obtain⟨d',hd',hx'⟩:=gJ h2 x hx
     exact⟨d',by simp[hd'],hx'⟩
   ·cases hc
  ·cases hc
theorem uw {place:Nat->Option (Nat×Nat)} : ∀ {parts:List (Nat×D)} {cells:List D},(∀p∈parts,∀x∈nm p.2,h x=h' x)->iF h place cells parts=iF h' place cells parts
 | [],_,_=>rfl
 | (i,d)::parts,cells,hx=>by
  simp only[iF]
  rw[sa (hx (i,d) (by simp))]
  have ih:∀cells',iF h place cells' parts=iF h' place cells' parts:=fun cells'=>uw (fun p hp=>hx p (by simp[hp]))
  simp only[ih]
theorem ux {place:Nat->Option (Nat×Nat)} : ∀ {parts:List (Nat×D)} {cells out:List D} {fr:List Nat},iF h place cells parts=some (out,fr)->∀x∈fr,∃p∈parts,x∈nm p.2
 | [],cells,out,fr,hc,x,hx=>by
  simp only[iF,aeX,Prod.mk.injEq]at hc
  obtain⟨_,rfl⟩:=hc
  simp at hx
 | (i,d)::parts,cells,out,fr,hc,x,hx=>by
  simp only[iF]at hc
  split at hc
  ·rename_i h1 h2
   split at hc
   ·split at hc
    ·rename_i h3
     simp only[aeX,Prod.mk.injEq]at hc
     obtain⟨_,rfl⟩:=hc
     rcases afV.1 hx with hx|hx
     ·exact⟨(i,d),by simp,qU h2 x hx⟩
     ·obtain⟨p,hp,hx'⟩:=ux h3 x hx
      exact⟨p,by simp[hp],hx'⟩
    ·cases hc
   ·cases hc
  ·cases hc
theorem gE {fr:List Nat} {p:Nat×Option Row} (hp:p∈iX h fr):p.1∈fr:=by
 unfold iX at hp
 obtain⟨x,hx,rfl⟩:=aeN.1 hp
 exact hx
theorem Fz {τ:Ty} {d:D} (hx:∀x∈nm d,h x=h' x):dg τ h d=dg τ h' d:=by
 cases d<;>try rfl
 simp only[dg]
 rw[cm (hx _ (by simp[nm,hZ]))]
theorem uD {x v:Nat} (hx:h x=h' x):lz h x v=lz h' x v:=by
 unfold lz
 rw[hx]
theorem Ju {τ:Ty} {x v y:Nat} (hx:h x=h' x) (hy:h y=h' y):py τ h x v y (lz h x v)=py τ h' x v y (lz h' x v):=by
 rw[uD hx]
 cases lz h' x v with
 | none=>rfl
 | some q =>
  obtain⟨r,y',s,n⟩:=q
  simp only[py]
  rw[hy,j7 (fr:=[y]) (fun z hz=>by simp only[afb]at hz;subst hz;exact hy)]
theorem Mh {τ:Ty} {d:D} (hx:∀x∈nm d,h x=h' x):nI τ h d=nI τ h' d:=by
 have hl:=Fz (τ:=τ) hx
 cases d with
 | ptr x v o =>
  simp only[nI]
  rw[cm (hx x (by simp[nm,hZ]))]
  cases live h' x v with
  | none=>rfl
  | some r=>simp only[n8];rw[hl]
 | pm x v y =>
  simp only[nI]
  rw[cm (hx x (by simp[nm,hZ])),Ju (hx x (by simp[nm,hZ])) (hx y (by simp[nm,hZ]))]
 | _=>exact hl
theorem Du {τ:Ty} {p d:D} (hp:∀x∈nm p,h x=h' x) (hx:∀x∈nm d,h x=h' x):cA τ h p d=cA τ h' p d:=by
 cases p<;>try rfl
 simp only[cA]
 rw[cm (hp _ (by simp[nm,hZ])),sa hx]
 cases live h' _ _ with
 | none=>rfl
 | some r =>
  cases hc:ee h' d with
  | none=>rfl
  | some q =>
   obtain⟨cs,fr⟩:=q
   simp only
   rw[j7 (fr:=fr) (fun x hxf=>hx x (qU hc x hxf))]
theorem Jx {τ:Ty} {p d:D} (hp:∀x∈nm p,h x=h' x) (hx:∀x∈nm d,h x=h' x):cL τ h p d=cL τ h' p d:=by
 have hl:=Du (τ:=τ) hp hx
 cases d with
 | box1 y vy s oy n =>
  cases p with
  | ptr x v o =>
   simp only[cL]
   rw[cm (hp _ (by simp[nm,hZ]))]
  | pm x v k =>
   simp only[cL]
   rw[cm (hp x (by simp[nm,hZ])),cm (hx y (by simp[nm,hZ]))]
  | _=>rfl
 | mp y' v' =>
  cases p with
  | pm x v y =>
   simp only[cL]
   rw[cm (hp x (by simp[nm,hZ])),nM (hp y (by simp[nm,hZ]))]
  | _=>rfl
 | _=>exact hl
theorem NY {d:D} (hx:∀x∈nm d,h x=h' x):mapOf h d=mapOf h' d:=by
 cases d<;>try rfl
 simp only[mapOf]
 rw[nM (hx _ (by simp[nm,hZ]))]
theorem BB {τ:Ty} {m i:D} {ok:Bool} (hx:∀x∈nm m,h x=h' x):jj T τ h m i ok=jj T τ h' m i ok:=by
 unfold jj
 rw[NY hx]
theorem RJ {d:D} (hx:∀x∈nm d,h x=h' x):xG h d=xG h' d:=by
 cases d<;>first|rfl|(simp only[xG];rw[lX hx])
theorem Uh {d d' : D} {fr : List Nat} (hc : xG h d = some (d', fr)) : ∀ x ∈ fr, x ∈ nm d := by
  cases d <;> simp only [xG] at hc <;> first
    | (simp only [aeX, Prod.mk.injEq] at hc; obtain ⟨_, rfl⟩ := hc; simp; done)
    | (split at hc
       · rename_i h1
         simp only [aeX, Prod.mk.injEq] at hc
         obtain ⟨_, rfl⟩ := hc
         exact qV h1
       · cases hc)
theorem pA {τ:Ty} {m i d:D} (hx:∀x∈nm m,h x=h' x) (hd:∀x∈nm d,h x=h' x):dh T τ h m i d=dh T τ h' m i d:=by
 unfold dh
 rw[RJ hd]
 split
 ·rename_i y v n d' fr _ hv
  have hy:=hx y (by simp[nm,hZ])
  rw[hy,nM hy]
  rw[j7 (fun z hz=>hd z (Uh hv z hz))]
 ·rfl
theorem Jw {d:D} (hx:∀x∈nm d,h x=h' x):jK h d=jK h' d:=by
 cases d<;>try rfl
 simp only[jK]
 rw[jO (hx _ (by simp[nm,hZ]))]
theorem Dr {τ:Ty} {i:Nat} {d:D} (hx:∀x∈nm d,h x=h' x):dz T τ h i d=dz T τ h' i d:=by
 cases d<;>try rfl
 ·simp only[dz]
  rw[jO (hx _ (by simp[nm,hZ]))]
 ·simp only[dz]
  rw[uD (hx _ (by simp[nm,hZ]))]
theorem xn {τ:Ty} {d i:D} (hx:∀x∈nm d,h x=h' x):bz T τ h d i=bz T τ h' d i:=by
 cases d<;>cases i<;>try rfl
 ·simp only[bz]
  rw[cm (hx _ (by simp[nm,hZ]))]
 ·simp only[bz]
  rw[jO (hx _ (by simp[nm,hZ]))]
theorem Dt {τ:Ty} {d:D} {lo hi mx:Option D} (hx:∀x∈nm d,h x=h' x):cr T τ h d lo hi mx=cr T τ h' d lo hi mx:=by
 cases d<;>try rfl
 simp only[cr]
 rw[cm (hx _ (by simp[nm,hZ]))]
theorem Dp {τ:Ty} {parts:List (Nat×D)} (hx:∀p∈parts,∀x∈nm p.2,h x=h' x):eG T τ h parts=eG T τ h' parts:=by
 unfold eG
 have h1:∀pl cells,iF h pl cells parts=iF h' pl cells parts:=fun pl cells=>uw hx
 split
 ·split
  ·rw[h1]
   split
   ·rename_i hf
    rw[j7 (fun x hxf=>by obtain⟨p,hp,hx'⟩:=ux hf x hxf;exact hx p hp x hx')]
   ·rfl
  ·rfl
 ·rfl
theorem Js {q:Nat->Bool} {τ:Ty} {dst:Option Nat} {parts:List (Nat×D)} (hx:∀p∈parts,∀x∈nm p.2,h x=h' x):pr q T τ h dst parts=pr q T τ h' dst parts:=by
 have hb:=Dp (T:=T) (τ:=τ) hx
 unfold pr
 split
 ·split
  ·exact hb
  ·split
   ·rename_i x v s o n _
    have e:alive h (.buf x v s o n)=alive h' (.buf x v s o n):=by
     simp only[alive]
     rw[jO (hx (0,.buf x v s o n) (by simp) x (by simp[nm,hZ]))]
    rw[e]
   ·rename_i x v s o n _
    have e:alive h (.buf x v s o n)=alive h' (.buf x v s o n):=by
     simp only[alive]
     rw[jO (hx (0,.box1 x v s o n) (by simp) x (by simp[nm,hZ]))]
    rw[e]
   ·rw[hb]
 ·exact hb
theorem wA {τ:Ty} {d len:Nat} {parts:List (Nat×D)} (hx:∀p∈parts,∀x∈nm p.2,h x=h' x):dy T τ h e d len parts=dy T τ h' e d len parts:=by
 unfold dy
 have h1:∀pl cells,iF h pl cells parts=iF h' pl cells parts:=fun pl cells=>uw hx
 split
 ·split
  ·split
   ·rw[h1]
    split
    ·rename_i hf
     rw[j7 (fun x hxf=>by obtain⟨p,hp,hx'⟩:=ux hf x hxf;exact hx p hp x hx')]
    ·rfl
   ·rfl
  ·rfl
 ·rfl
theorem Bz {τ:Ty} {d:Nat} {s x:D} (hs:∀y∈nm s,h y=h' y) (hx:∀y∈nm x,h y=h' y):ji T τ h e d s x=ji T τ h' e d s x:=by
 unfold ji
 rw[Fv hx]
 cases s<;>try rfl
 simp only
 rw[cm (hs _ (by simp[nm,hZ]))]
theorem KU {d:D} (hx:∀x∈nm d,h x=h' x):alive h d=alive h' d:=by
 cases d<;>try rfl
 all_goals
  simp only[alive]
  rw[jO (hx _ (by simp[nm,hZ]))]
theorem zO {dst:Option Nat} {b:Builtin} {tys:List Nat} {args:List D} (hx:∀d∈args,∀x∈nm d,h x=h' x):ca T h e dst b tys args=ca T h' e dst b tys args:=by
 unfold ca
 split
 ·rw[KU (hx _ (by simp))]
 ·split
  ·split
   ·rw[Bz (hx _ (by simp)) (hx _ (by simp))]
   ·rfl
  ·rfl
 ·rfl
 ·rfl
 ·rfl
theorem Az {dst:Option Nat} {g:Nat} {args:List D} (hx:∀d∈args,∀x∈nm d,h x=h' x):tY Γ h e dst g args=tY Γ h' e dst g args:=by
 unfold tY
 rw[iW hx]
 split
 ·rename_i hf
  rw[j7 (fun x hxf=>by obtain⟨d,hd,hx'⟩:=gJ hf x hxf;exact hx d hd x hx')]
 ·rfl
theorem AB {dst:Option Nat} {g x v:Nat} {d0:D} {args:List D} (h0:h x=h' x) (hx:∀d∈args,∀x∈nm d,h x=h' x):s8 Γ h e dst g x v d0 args=s8 Γ h' e dst g x v d0 args:=by
 unfold s8
 rw[cm h0,iW hx]
 split
 ·split
  ·split
   ·rename_i hf
    rw[j7 (fun x hxf=>by obtain⟨d,hd,hx'⟩:=gJ hf x hxf;exact hx d hd x hx')]
   ·rfl
  ·rfl
 ·rfl
theorem Le {dst:Option Nat} {p:Nat×Nat×Nat} {args:List D} (hx:∀d∈args,∀x∈nm d,h x=h' x):s7 h e dst p args=s7 h' e dst p args:=by
 unfold s7
 split
 ·rw[cm (hx _ agd _ (by simp[nm,hZ])),cm (hx _ (age _ (age _ agd)) _ (by simp[nm,hZ]))]
 ·rfl
theorem La {p:Grow} {args:List D} (hx:∀d∈args,∀x∈nm d,h x=h' x):s6 h p args=s6 h' p args:=by
 unfold s6
 split
 ·rw[uD (hx _ agd _ (by simp[nm,hZ])),hx _ agd _ (show _∈nm (D.pm _ _ _) by simp only[nm,hZ];exact age _ agd)]
 ·rfl
theorem Fy {dst:Option Nat} {f:D} {args:List D} (hf:∀x∈nm f,h x=h' x) (hx:∀d∈args,∀x∈nm d,h x=h' x):hX Γ h e dst f args=hX Γ h' e dst f args:=by
 cases f<;>try rfl
 ·rename_i g
  simp only[hX]
  split
  ·exact Le hx
  split
  ·exact La hx
  split
  ·split
   ·exact AB (hx _ agd _ (by simp[nm,hZ])) (fun d hd=>hx d (age _ hd))
   ·exact AB (hx _ agd _ (by simp[nm,hZ])) (fun d hd=>hx d (age _ hd))
   ·rfl
  ·exact Az hx
 ·rename_i g kk caps
  simp only[hX]
  split
  ·rename_i hok
   rw[aeZ]at hok
   have hcap:∀d∈caps,∀x∈nm d,h x=h' x:=fun d hd x hxd=>by
    have:=hok d hd
    rw[Tv (fun f kk xs he=>by rw[he]at this;cases this)]at hxd
    exact hf x (agb.2 ⟨d,hd,hxd⟩)
   refine Az fun d hd =>?_
   rcases afV.1 hd with hd|hd
   ·exact hcap d (afy hd)
   ·rcases afV.1 hd with hd|hd
    ·exact hx d hd
    ·exact hcap d (afw hd)
  ·rfl
theorem te {ty:Nat} {dst:Option Nat} {x:D} (hx:∀y∈nm x,h y=h' y):bI T ty e dst h x=bI T ty e dst h' x:=by
 unfold bI
 split
 ·rw[cm (hx _ (by simp[nm,hZ])),jO (hx _ (by simp[nm,hZ]))]
 ·rfl
 ·rfl
theorem Ji {d:D} (hx:∀x∈nm d,h x=h' x):pn h d=pn h' d:=by
 by_cases hd:∀xs,d ≠ .agg xs
 ·rw[vp hd,vp hd]
  exact lX hx
 ·simp only[ne_eq,Classical.not_forall,Classical.not_not]at hd
  obtain⟨xs,rfl⟩:=hd
  rfl
theorem GH {d d':D} {fr:List Nat} (hc:pn h d=some (d',fr)):∀x∈fr,x∈nm d:=by
 by_cases hd:∀xs,d ≠ .agg xs
 ·rw[vp hd]at hc
  exact qV hc
 ·simp only[ne_eq,Classical.not_forall,Classical.not_not]at hd
  obtain⟨xs,rfl⟩:=hd
  simp only[pn,aeX,Prod.mk.injEq]at hc
  obtain⟨_,rfl⟩:=hc
  simp
theorem Jr {q:Nat->Bool} {ty:Nat} {dst:Option Nat} {x:D} (hx:∀y∈nm x,h y=h' y):qK T q ty e dst h x=qK T q ty e dst h' x:=by
 unfold qK ik
 rw[Ji hx]
 split
 ·rw[te hx]
  split
  ·rfl
  ·split
   ·rename_i hc
    rw[j7 fun y hy=>hx y (GH hc y hy)]
   ·rfl
 ·exact te hx
theorem UE {vs : Operand -> D} (hx : ∀ x ∈ gZ o vs, h x = h' x) : mG T Γ e o vs h = mG T Γ e o vs h' := by
  have key : ∀ y, y ∈ o.op.operands.toList -> (∀ a b c, o.op ≠ .pick a b c) -> (∀ a, o.op ≠ .move a) -> (∀ a b c, o.op ≠ .makeFunc a b c) -> ∀ x ∈ nm (vs y), h x = h' x := by
    intro y hy h1 h2 h3 x hxm
    apply hx x
    unfold gZ
    split
    · rename_i ho; exact absurd ho (h2 _)
    · rename_i ho; exact absurd ho (h1 _ _ _)
    · rename_i ho; exact absurd ho (h3 _ _ _)
    · exact ae2 _ (agb.2 ⟨y, hy, hxm⟩)
  unfold mG
  cases ho : o.op <;> (try simp only) <;> rw [ho] at key <;> try rfl
  case assign x => exact Jr (key x (by simp [Op.operands]) (by simp) (by simp) (by simp))
  case box ty x => rw [sa (key x (by simp [Op.operands]) (by simp) (by simp) (by simp))]
                   split
                   · rename_i hc
                     rw [j7 (fun z hz => key x (by simp [Op.operands]) (by simp) (by simp) (by simp) z (qU hc z hz))]
                   · rfl
  case load ty x => simp only [Mh (key x (by simp [Op.operands]) (by simp) (by simp) (by simp))]
  case store ty x y => simp only [Jx (key x (by simp [Op.operands]) (by simp) (by simp) (by simp)) (key y (by simp [Op.operands]) (by simp) (by simp) (by simp))]
  case nilCheck x => exact Jw (key x (by simp [Op.operands]) (by simp) (by simp) (by simp))
  case fieldAddr ty x i => simp only [Dr (key x (by simp [Op.operands]) (by simp) (by simp) (by simp))]
  case makeMap ty res => cases res <;> rfl
  case lookup ty m i ok => simp only [BB (key m (by simp [Op.operands]) (by simp) (by simp) (by simp))]
  case mapUpdate ty m i x => simp only [pA (key m (by simp [Op.operands]) (by simp) (by simp) (by simp)) (key x (by simp [Op.operands]) (by simp) (by simp) (by simp))]
  case insert ty m i x => simp only [pA (key m (by simp [Op.operands]) (by simp) (by simp) (by simp)) (key x (by simp [Op.operands]) (by simp) (by simp) (by simp))]
  case indexAddr ty x i => simp only [xn (key x (by simp [Op.operands]) (by simp) (by simp) (by simp))]
  case slice ty x lo hi mx => simp only [Dt (key x (by simp [Op.operands]) (by simp) (by simp) (by simp))]
  case build ty parts =>
    have : ∀ p ∈ parts.toList.map (fun p => (p.1, vs p.2)), ∀ x ∈ nm p.2, h x = h' x := by
      intro p hp x hx'
      obtain ⟨q, hq, rfl⟩ := aeN.1 hp
      exact key q.2 (by simp only [Op.operands, List.toList_toArray]; exact aeN.2 ⟨q, hq, rfl⟩) (by simp) (by simp) (by simp) x hx'
    simp only [Js this]
  case buildSlice ty len parts =>
    have : ∀ p ∈ parts.toList.map (fun p => (p.1, vs p.2)), ∀ x ∈ nm p.2, h x = h' x := by
      intro p hp x hx'
      obtain ⟨q, hq, rfl⟩ := aeN.1 hp
      exact key q.2 (by simp only [Op.operands, List.toList_toArray]; exact aeN.2 ⟨q, hq, rfl⟩) (by simp) (by simp) (by simp) x hx'
    simp only [wA this]
  case call c =>
    have : ∀ d ∈ c.args.toList.map vs, ∀ x ∈ nm d, h x = h' x := by
      intro d hd x hx'
      obtain ⟨y, hy, rfl⟩ := aeN.1 hd
      exact key y (by simp only [Op.operands, Call.operands, af0]; exact ae3 _ hy) (by simp) (by simp) (by simp) x hx'
    cases hc : c.callee with
    | value f => exact Fy (key f (by simp [Op.operands, Call.operands, hc]) (by simp) (by simp) (by simp)) this
    | builtin b => exact zO this
    | invoke _ _ => rfl
theorem abA {vs vs':Operand->D} (hx:∀y∈o.op.operands.toList,vs y=vs' y):mG T Γ e o vs h=mG T Γ e o vs' h∧gZ o vs=gZ o vs':=by
 refine⟨?_,?_⟩
 ·unfold mG
  cases ho:o.op<;>(try simp only)<;>rw[ho]at hx<;>try rfl
  case move x=>rw[hx x (by simp[Op.operands])]
  case assign x=>rw[hx x (by simp[Op.operands])]
  case pick a b c=>rw[hx a (by simp[Op.operands]),hx b (by simp[Op.operands]),hx c (by simp[Op.operands])]
  case box ty x=>rw[hx x (by simp[Op.operands])]
  case load ty x=>rw[hx x (by simp[Op.operands])]
  case store ty x y=>rw[hx x (by simp[Op.operands]),hx y (by simp[Op.operands])]
  case nilCheck x=>rw[hx x (by simp[Op.operands])]
  case fieldAddr ty x i=>rw[hx x (by simp[Op.operands])]
  case field ty x i=>rw[hx x (by simp[Op.operands])]
  case makeMap ty res=>cases res<;>rfl
  case lookup ty m i ok=>rw[hx m (by simp[Op.operands]),hx i (by simp[Op.operands])]
  case mapUpdate ty m i x=>rw[hx m (by simp[Op.operands]),hx i (by simp[Op.operands]),hx x (by simp[Op.operands])]
  case insert ty m i x=>rw[hx m (by simp[Op.operands]),hx i (by simp[Op.operands]),hx x (by simp[Op.operands])]
  case indexAddr ty x i=>rw[hx x (by simp[Op.operands]),hx i (by simp[Op.operands])]
  case index ty x i=>rw[hx x (by simp[Op.operands]),hx i (by simp[Op.operands])]
  case slice ty x lo hi mx =>
   rw[hx x (by simp[Op.operands])]
   have e1:lo.map vs=lo.map vs':=by cases lo with|none=>rfl|some y=>simp only[Option.map_some];rw[hx y (by simp[Op.operands])]
   have e2:hi.map vs=hi.map vs':=by cases hi with|none=>rfl|some y=>simp only[Option.map_some];rw[hx y (by simp[Op.operands])]
   have e3:mx.map vs=mx.map vs':=by cases mx with|none=>rfl|some y=>simp only[Option.map_some];rw[hx y (by simp[Op.operands])]
   rw[e1,e2,e3]
  case build ty parts =>
   have:parts.toList.map (fun p=>(p.1,vs p.2))=parts.toList.map (fun p=>(p.1,vs' p.2)):=agc fun p hp=>by rw[hx p.2 (by simp only[Op.operands,List.toList_toArray];exact aeN.2 ⟨p,hp,rfl⟩)]
   rw[this]
  case buildSlice ty len parts =>
   have:parts.toList.map (fun p=>(p.1,vs p.2))=parts.toList.map (fun p=>(p.1,vs' p.2)):=agc fun p hp=>by rw[hx p.2 (by simp only[Op.operands,List.toList_toArray];exact aeN.2 ⟨p,hp,rfl⟩)]
   rw[this]
  case makeSlice ty l c=>rw[hx l (by simp[Op.operands]),hx c (by simp[Op.operands])]
  case binOp op ty x y ty'=>rw[hx x (by simp[Op.operands]),hx y (by simp[Op.operands])]
  case unOp op ty x=>rw[hx x (by simp[Op.operands])]
  case convert s d x=>rw[hx x (by simp[Op.operands])]
  case makeFunc fn first caps =>
   have:caps.toList.map vs=caps.toList.map vs':=agc fun y hy=>hx y (by simp only[Op.operands,af0];exact ae3 _ hy)
   have this2:first.toList.map vs=first.toList.map vs':=agc fun y hy=>hx y (by simp only[Op.operands,af0];exact ae2 _ hy)
   rw[this,this2]
  case extract x i=>rw[hx x (by simp[Op.operands])]
  case call c =>
   have:c.args.toList.map vs=c.args.toList.map vs':=agc fun y hy=>hx y (by simp only[Op.operands,Call.operands,af0];exact ae3 _ hy)
   cases hc:c.callee with
   | value f=>simp only;rw[this,hx f (by simp[Op.operands,Call.operands,hc])]
   | builtin b=>simp only;rw[this]
   | invoke _ _=>rfl
 ·have hfm:o.op.operands.toList.flatMap (fun y=>nm (vs y))=o.op.operands.toList.flatMap (fun y=>nm (vs' y)):=by
   rw[List.flatMap_def,List.flatMap_def]
   congr 1
   exact agc fun y hy=>by rw[hx y hy]
  unfold gZ
  cases ho:o.op<;>simp only<;>rw[ho]at hfm<;>rw[hfm]
end
section
variable {T:Nat->Option Ty} {h h':Nat->Option Row} {e:Nat} {o:Oper} {Γ:Env}
theorem BA {τ:Ty} {d:Nat} {s x:D} {E:bM} (hE:ji T τ h e d s x=some E):∀p∈E.hw,p.1=d∨p.1∈nm s:=by
 unfold ji at hE
 split at hE
 ·split at hE
  ·split at hE
   ·split at hE
    ·split at hE
     ·split at hE
      ·simp only[aeX]at hE;subst hE;intro p hp;simp at hp
      ·simp only[aeX]at hE;subst hE;intro p hp;simp at hp;exact .inl (by rw[hp])
     ·cases hE
    ·split at hE
     ·split at hE
      ·simp only[aeX]at hE;subst hE
       intro p hp
       simp only[aeV,agh,or_false]at hp
       rcases hp with rfl|rfl
       ·exact .inr (by simp[nm,hZ])
       ·exact .inl rfl
      ·cases hE
     ·cases hE
    ·cases hE
   ·cases hE
  ·cases hE
 ·cases hE
theorem AA {dst:Option Nat} {g:Nat} {args:List D} {E:bM} (hE:tY Γ h e dst g args=some E):∀p∈E.hw,dst=some p.1∨∃d∈args,p.1∈nm d:=by
 unfold tY at hE
 split at hE
 ·rename_i hca
  split at hE
  ·simp only[aeX]at hE
   subst hE
   intro p hp
   simp only at hp
   split at hp
   ·simp at hp
   ·exact .inr (gJ hca _ (gE hp))
  ·split at hE
   ·split at hE
    ·simp only[aeX]at hE
     subst hE
     intro p hp
     simp only[afV,afb]at hp
     rcases hp with hp|rfl
     ·split at hp
      ·simp at hp
      ·exact .inr (gJ hca _ (gE hp))
     ·exact .inl rfl
    ·cases hE
   ·cases hE
  ·cases hE
 ·cases hE
theorem Lb {p:Grow} {args:List D} {E:bM} (hE:s6 h p args=some E):∀q∈E.hw,∃d∈args,q.1∈nm d:=by
 unfold s6 at hE
 split at hE<;>try (cases hE;done)
 split at hE<;>try (cases hE;done)
 split at hE<;>try (cases hE;done)
 rename_i hcond
 obtain⟨rfl,_⟩:=hcond
 split at hE<;>try (cases hE;done)
 simp only[aeX]at hE
 subst hE
 intro q hq
 simp only[aeV,agh,or_false]at hq
 rcases hq with rfl|rfl
 ·exact⟨_,agd,by simp[nm,hZ]⟩
 ·exact⟨_,agd,by simp[nm,hZ]⟩
theorem Lf {dst:Option Nat} {p:Nat×Nat×Nat} {args:List D} {E:bM} (hE:s7 h e dst p args=some E):∀q∈E.hw,dst=some q.1∨∃d∈args,q.1∈nm d:=by
 unfold s7 at hE
 split at hE<;>try (cases hE;done)
 split at hE<;>try (cases hE;done)
 split at hE<;>try (cases hE;done)
 simp only[aeX]at hE
 subst hE
 intro q hq
 simp only[aeV,agh,or_false]at hq
 rcases hq with rfl|rfl|rfl
 ·exact .inr ⟨_,age _ (age _ agd),by simp[nm,hZ]⟩
 ·exact .inr ⟨_,agd,by simp[nm,hZ]⟩
 ·exact .inl rfl
theorem AD {dst:Option Nat} {g x v:Nat} {d0:D} {args:List D} {E:bM} (hE:s8 Γ h e dst g x v d0 args=some E):∀p∈E.hw,dst=some p.1∨p.1=x∨∃d∈args,p.1∈nm d:=by
 unfold s8 at hE
 split at hE<;>try (cases hE;done)
 split at hE<;>try (cases hE;done)
 split at hE<;>try (cases hE;done)
 rename_i hca
 split at hE<;>try (cases hE;done)
 split at hE<;>try (cases hE;done)
 ·simp only[aeX]at hE
  subst hE
  intro p hp
  simp only[afV,afb]at hp
  rcases hp with hp|rfl
  ·exact .inr (.inr (gJ hca _ (gE hp)))
  ·exact .inr (.inl rfl)
 ·simp only[aeX]at hE
  subst hE
  intro p hp
  simp only[afV,afb]at hp
  rcases hp with hp|rfl
  ·exact .inr (.inr (gJ hca _ (gE hp)))
  ·exact .inr (.inl rfl)
 ·split at hE<;>try (cases hE;done)
  split at hE<;>try (cases hE;done)
  simp only[aeX]at hE
  subst hE
  intro p hp
  simp only[afV,aeV,agh,or_false]at hp
  rcases hp with hp|rfl|rfl
  ·exact .inr (.inr (gJ hca _ (gE hp)))
  ·exact .inr (.inl rfl)
  ·exact .inl rfl
theorem xo {τ:Ty} {d:D} {E:bM} (hE:dg τ h d=some E):E.hw=[]:=by
 cases d<;>simp only[dg]at hE<;>try (cases hE;done)
 all_goals (repeat' split at hE)<;>first|(cases hE;done)|(simp only[aeX]at hE;subst hE;rfl)
theorem W7 {τ:Ty} {d:D} {E:bM} (hE:nI τ h d=some E):∀p∈E.hw,p.1∈nm d:=by
 have none_:E.hw=[]->∀p∈E.hw,p.1∈nm d:=fun he p hp=>by rw[he]at hp;simp at hp
 have hl:dg τ h d=some E->∀p∈E.hw,p.1∈nm d:=fun he=>none_ (xo he)
 cases d with
 | ptr x v o =>
  simp only[nI]at hE
  cases hl:live h x v with
  | none=>rw[hl]at hE;cases hE
  | some r =>
   rw[hl]at hE
   simp only[n8]at hE
   split at hE
   ·split at hE
    ·split at hE
     ·exact none_ (by simp only[aeX]at hE;subst hE;rfl)
     ·exact none_ (xo hE)
    ·cases hE
   ·exact none_ (xo hE)
 | pm x v y =>
  simp only[nI]at hE
  split at hE
  ·split at hE
   ·split at hE
    ·exact none_ (by simp only[aeX]at hE;subst hE;rfl)
    ·cases hE
   ·cases hE
  ·unfold py at hE
   split at hE
   ·split at hE
    ·split at hE
     ·simp only[aeX]at hE
      subst hE
      intro p hp
      have:=gE hp
      simp only[afb]at this
      rw[this]
      simp[nm,hZ]
     ·cases hE
    ·cases hE
   ·cases hE
 | _=>exact hl hE
theorem Dv {τ:Ty} {q d:D} {E:bM} (hE:cA τ h q d=some E):∀p∈E.hw,p.1∈nm d∨p.1∈nm q:=by
 cases q<;>simp only[cA]at hE<;>try (cases hE;done)
 split at hE
 ·split at hE
  ·rename_i hc
   split at hE
   ·simp only[aeX]at hE
    subst hE
    intro p hp
    rcases afV.1 hp with hp|hp
    ·exact .inl (qU hc _ (gE hp))
    ·simp only[afb]at hp
     subst hp
     exact .inr (by simp[nm,hZ])
   ·cases hE
  ·cases hE
 ·cases hE
theorem Jy {τ:Ty} {q d:D} {E:bM} (hE:cL τ h q d=some E):∀p∈E.hw,p.1∈nm d∨p.1∈nm q:=by
 have hl:cA τ h q d=some E->∀p∈E.hw,p.1∈nm d∨p.1∈nm q:=Dv
 cases d with
 | box1 y vy s oy n =>
  cases q with
  | ptr x v o =>
   simp only[cL]at hE
   split at hE
   ·split at hE
    ·simp only[aeX]at hE
     subst hE
     intro p hp
     simp only[afb]at hp
     subst hp
     exact .inr (by simp[nm,hZ])
    ·cases hE
   ·cases hE
  | pm x v k =>
   simp only[cL]at hE
   split at hE
   ·split at hE
    ·simp only[aeX]at hE
     subst hE
     intro p hp
     simp only[aeV,agh,or_false]at hp
     rcases hp with rfl|rfl|rfl
     ·exact .inl (by simp[nm,hZ])
     ·exact .inr (by simp[nm,hZ])
     ·exact .inr (by simp[nm,hZ])
    ·cases hE
   ·cases hE
  | _=>simp[cL]at hE
 | mp y' v' =>
  cases q with
  | pm x v y =>
   simp only[cL]at hE
   split at hE
   ·split at hE
    ·simp only[aeX]at hE
     subst hE
     intro p hp
     simp only[afb]at hp
     subst hp
     exact .inr (by simp[nm,hZ])
    ·cases hE
   ·cases hE
  | _=>simp[cL]at hE
 | _=>exact hl hE
theorem Jv {τ:Ty} {m i:D} {ok:Bool} {E:bM} (hE:jj T τ h m i ok=some E):E.hw=[]:=by
 unfold jj at hE
 split at hE
 ·split at hE
  ·split at hE
   ·simp only[aeX]at hE;subst hE;rfl
   ·cases hE
  ·cases hE
 ·cases hE
theorem pB {τ:Ty} {m i d:D} {E:bM} (hE:dh T τ h m i d=some E):∀p∈E.hw,p.1∈nm d∨p.1∈nm m:=by
 unfold dh at hE
 split at hE
 ·rename_i hv
  split at hE
  ·split at hE
   ·split at hE
    ·simp only[aeX]at hE
     subst hE
     intro p hp
     rcases afV.1 hp with hp|hp
     ·exact .inl (Uh hv _ (gE hp))
     ·simp only[afb]at hp
      subst hp
      exact .inr (by simp[nm,hZ])
    ·cases hE
   ·cases hE
  ·cases hE
 ·cases hE
theorem pt {τ:Ty} {parts:List (Nat×D)} {E:bM} (hE:eG T τ h parts=some E):∀p∈E.hw,∃q∈parts,p.1∈nm q.2:=by
 unfold eG at hE
 split at hE
 ·split at hE
  ·split at hE
   ·rename_i hf
    simp only[aeX]at hE
    subst hE
    intro p hp
    exact ux hf _ (gE hp)
   ·cases hE
  ·cases hE
 ·cases hE
theorem Jt {q:Nat->Bool} {τ:Ty} {dst:Option Nat} {parts:List (Nat×D)} {E:bM} (hE:pr q T τ h dst parts=some E):∀p∈E.hw,∃q∈parts,p.1∈nm q.2:=by
 unfold pr at hE
 split at hE
 ·split at hE
  ·exact pt hE
  ·split at hE
   ·split at hE
    ·simp only[aeX]at hE
     subst hE
     intro p hp
     simp at hp
    ·cases hE
   ·split at hE
    ·simp only[aeX]at hE
     subst hE
     intro p hp
     simp at hp
    ·cases hE
   ·unfold cE at hE
    split at hE
    ·rename_i hb
     simp only[aeX]at hE
     subst hE
     have hh:=pt hb
     exact hh
    ·cases hE
 ·exact pt hE
theorem G7 {vs:Operand->D} {E:bM} (hE:mG T Γ e o vs h=some E):∀p∈E.hw,p.1∈gZ o vs:=by
 have key:∀y,y∈o.op.operands.toList->(∀a b c,o.op ≠ .pick a b c)->(∀a,o.op ≠ .move a)->(∀a b c,o.op ≠ .makeFunc a b c)->∀x∈nm (vs y),x∈gZ o vs:=by
  intro y hy h1 h2 h3 x hxm
  unfold gZ
  split
  ·rename_i ho;exact absurd ho (h2 _)
  ·rename_i ho;exact absurd ho (h1 _ _ _)
  ·rename_i ho;exact absurd ho (h3 _ _ _)
  ·exact ae2 _ (agb.2 ⟨y,hy,hxm⟩)
 have keyd:∀d,o.dst=some d->(∀a b c,o.op ≠ .pick a b c)->(∀a,o.op ≠ .move a)->(∀a b c,o.op ≠ .makeFunc a b c)->d∈gZ o vs:=by
  intro d hd h1 h2 h3
  unfold gZ
  split
  ·rename_i ho;exact absurd ho (h2 _)
  ·rename_i ho;exact absurd ho (h1 _ _ _)
  ·rename_i ho;exact absurd ho (h3 _ _ _)
  ·exact ae3 _ (by rw[hd];simp)
 have none_:∀(d:D),(some ⟨d,[]⟩:Option bM)=some E->∀p∈E.hw,p.1∈gZ o vs:=by
  intro d he p hp
  simp only[aeX]at he
  subst he
  simp at hp
 unfold mG at hE
 cases ho:o.op<;>rw[ho]at hE key keyd<;>simp only at hE<;>try (cases hE;done)
 case move x=>exact none_ _ hE
 case assign x =>
  have hold:bI T o.type e o.dst h (vs x)=some E->∀p∈E.hw,p.1∈gZ o vs:=by
   intro hE
   unfold bI at hE
   split at hE
   ·rename_i y v s c n hx
    split at hE
    ·rename_i hd _
     split at hE
     ·exact none_ _ hE
     ·simp only[aeX]at hE
      subst hE
      intro p hp
      simp only[aeV,agh,or_false]at hp
      rcases hp with rfl|rfl
      ·exact key x (by simp[Op.operands]) (by simp) (by simp) (by simp) _ (by rw[hx];simp[nm,hZ])
      ·exact keyd _ hd (by simp) (by simp) (by simp)
    ·split at hE
     ·exact none_ _ hE
     ·exact none_ _ hE
   ·split at hE
    ·rename_i hd _
     split at hE
     ·split at hE
      ·simp only[aeX]at hE
       subst hE
       intro p hp
       simp only[afb]at hp
       subst hp
       exact keyd _ hd (by simp) (by simp) (by simp)
      ·cases hE
     ·cases hE
    ·cases hE
   ·exact none_ _ hE
  unfold qK at hE
  split at hE
  ·rename_i d hd
   split at hE
   ·rw[<- hd]at hE;exact hold hE
   ·unfold ik at hE
    split at hE
    ·rename_i d' fr hc
     simp only[aeX]at hE
     subst hE
     intro p hp
     exact key x (by simp[Op.operands]) (by simp) (by simp) (by simp) _ (GH hc _ (gE hp))
    ·cases hE
  ·rename_i hd;rw[<- hd]at hE;exact hold hE
 case pick a b c =>
  split at hE
  ·exact none_ _ hE
  ·exact none_ _ hE
  ·cases hE
 case alloc ty =>
  split at hE
  ·rename_i hd
   split at hE
   ·simp only[aeX]at hE
    subst hE
    intro p hp
    simp only[afb]at hp
    subst hp
    exact keyd _ hd (by simp) (by simp) (by simp)
   ·cases hE
  ·cases hE
 case box ty x =>
  split at hE
  ·rename_i hd hc
   split at hE
   ·simp only[aeX]at hE
    subst hE
    intro p hp
    rcases afV.1 hp with hp|hp
    ·exact key x (by simp[Op.operands]) (by simp) (by simp) (by simp) _ (qU hc _ (gE hp))
    ·simp only[afb]at hp
     subst hp
     exact keyd _ hd (by simp) (by simp) (by simp)
   ·cases hE
  ·cases hE
 case load ty x =>
  split at hE
  ·intro p hp
   exact key x (by simp[Op.operands]) (by simp) (by simp) (by simp) _ (W7 hE p hp)
  ·cases hE
 case store ty x y =>
  split at hE
  ·intro p hp
   rcases Jy hE p hp with hh|hh
   ·exact key y (by simp[Op.operands]) (by simp) (by simp) (by simp) _ hh
   ·exact key x (by simp[Op.operands]) (by simp) (by simp) (by simp) _ hh
  ·cases hE
 case makeMap ty res =>
  cases res with
  | some _=>cases hE
  | none =>
   simp only at hE
   split at hE
   ·rename_i hd
    unfold pz at hE
    split at hE
    ·simp only[aeX]at hE
     subst hE
     intro p hp
     simp only[afb]at hp
     subst hp
     exact keyd _ hd (by simp) (by simp) (by simp)
    ·cases hE
   ·cases hE
 case lookup ty m i ok =>
  split at hE
  ·intro p hp
   rw[Jv hE]at hp
   simp at hp
  ·cases hE
 case mapUpdate ty m i x =>
  split at hE
  ·intro p hp
   rcases pB hE p hp with hh|hh
   ·exact key x (by simp[Op.operands]) (by simp) (by simp) (by simp) _ hh
   ·exact key m (by simp[Op.operands]) (by simp) (by simp) (by simp) _ hh
  ·cases hE
 case insert ty m i x =>
  split at hE
  ·intro p hp
   rcases pB hE p hp with hh|hh
   ·exact key x (by simp[Op.operands]) (by simp) (by simp) (by simp) _ hh
   ·exact key m (by simp[Op.operands]) (by simp) (by simp) (by simp) _ hh
  ·cases hE
 case nilCheck x =>
  cases hx:vs x<;>rw[hx]at hE<;>simp only[jK]at hE<;>try (cases hE;done)
  ·split at hE
   ·exact none_ _ hE
   ·cases hE
  ·exact none_ _ hE
 case fieldAddr ty x i =>
  split at hE
  ·cases hx:vs x<;>rw[hx]at hE<;>simp only[dz]at hE<;>try (cases hE;done)
   ·split at hE
    ·split at hE
     ·split at hE
      ·split at hE
       ·cases hE
       ·exact none_ _ hE
      ·cases hE
     ·cases hE
    ·cases hE
   ·split at hE
    ·split at hE
     ·split at hE
      ·split at hE
       ·cases hE
       ·exact none_ _ hE
      ·cases hE
     ·cases hE
    ·cases hE
   ·split at hE
    ·split at hE
     ·split at hE
      ·split at hE
       ·cases hE
       ·exact none_ _ hE
      ·cases hE
     ·cases hE
    ·cases hE
  ·cases hE
 case field ty x i =>
  split at hE
  ·cases hx:vs x<;>rw[hx]at hE<;>simp only[l3]at hE<;>try (cases hE;done)
   split at hE
   ·split at hE
    ·split at hE
     ·split at hE
      ·exact none_ _ hE
      ·cases hE
     ·cases hE
    ·cases hE
   ·cases hE
  ·cases hE
 case indexAddr ty x i =>
  split at hE
  ·cases hx:vs x<;>cases hi:vs i<;>rw[hx,hi]at hE<;>simp only[bz]at hE<;>try (cases hE;done)
   all_goals
    split at hE
    ·split at hE
     ·split at hE
      ·exact none_ _ hE
      ·cases hE
     ·cases hE
    ·cases hE
  ·cases hE
 case index ty x i =>
  split at hE
  ·cases hx:vs x<;>cases hi:vs i<;>rw[hx,hi]at hE<;>simp only[fV]at hE<;>try (cases hE;done)
   ·split at hE
    ·split at hE
     ·split at hE
      ·exact none_ _ hE
      ·cases hE
     ·cases hE
    ·cases hE
   ·split at hE
    ·split at hE
     ·split at hE
      ·split at hE
       ·exact none_ _ hE
       ·cases hE
      ·cases hE
     ·cases hE
    ·cases hE
  ·cases hE
 case slice ty x lo hi mx =>
  split at hE
  ·unfold cr at hE
   split at hE
   ·split at hE
    ·exact none_ _ hE
    ·cases hE
   ·split at hE
    ·split at hE
     ·split at hE
      ·exact none_ _ hE
      ·split at hE
       ·split at hE
        ·exact none_ _ hE
        ·cases hE
       ·cases hE
     ·cases hE
    ·cases hE
   ·split at hE
    ·split at hE
     ·split at hE
      ·exact none_ _ hE
      ·cases hE
     ·cases hE
    ·cases hE
   ·cases hE
  ·cases hE
 case build ty parts =>
  split at hE
  ·intro p hp
   obtain⟨q,hq,hx⟩:=Jt hE p hp
   obtain⟨y,hy,rfl⟩:=aeN.1 hq
   exact key y.2 (by simp only[Op.operands,List.toList_toArray];exact aeN.2 ⟨y,hy,rfl⟩) (by simp) (by simp) (by simp) _ hx
  ·cases hE
 case buildSlice ty len parts =>
  split at hE
  ·rename_i hd
   unfold dy at hE
   split at hE
   ·split at hE
    ·split at hE
     ·split at hE
      ·rename_i hf
       split at hE
       ·simp only[aeX]at hE
        subst hE
        intro p hp
        rcases afV.1 hp with hp|hp
        ·obtain⟨q,hq,hx⟩:=ux hf _ (gE hp)
         obtain⟨y,hy,rfl⟩:=aeN.1 hq
         exact key y.2 (by simp only[Op.operands,List.toList_toArray];exact aeN.2 ⟨y,hy,rfl⟩) (by simp) (by simp) (by simp) _ hx
        ·simp only[afb]at hp
         subst hp
         exact keyd _ hd (by simp) (by simp) (by simp)
       ·cases hE
      ·cases hE
     ·cases hE
    ·cases hE
   ·cases hE
  ·cases hE
 case makeSlice ty l c =>
  split at hE
  ·rename_i hd
   unfold p9 at hE
   split at hE
   ·split at hE
    ·split at hE
     ·simp only[aeX]at hE
      subst hE
      intro p hp
      simp only[afb]at hp
      subst hp
      exact keyd _ hd (by simp) (by simp) (by simp)
     ·cases hE
    ·cases hE
   ·cases hE
  ·cases hE
 case binOp op ty x y ty' =>
  split at hE
  ·exact none_ _ hE
  ·cases hE
 case unOp op ty x =>
  split at hE
  ·exact none_ _ hE
  ·cases hE
 case makeFunc fn first caps =>
  split at hE
  ·split at hE
   ·exact none_ _ hE
   ·cases hE
  ·cases hE
 case convert s d x =>
  split at hE
  ·split at hE
   ·exact none_ _ hE
   ·cases hE
  ·cases hE
 case extract x i =>
  split at hE
  ·split at hE
   ·exact none_ _ hE
   ·cases hE
  ·cases hE
 case call c =>
  cases hc:c.callee with
  | invoke _ _=>rw[hc]at hE;cases hE
  | value f =>
   rw[hc]at hE
   simp only at hE
   have karg:∀d∈c.args.toList.map vs,∀x∈nm d,x∈gZ o vs:=by
    intro d hd x hx
    obtain⟨y,hy,rfl⟩:=aeN.1 hd
    exact key y (by simp only[Op.operands,Call.operands,af0];exact ae3 _ hy) (by simp) (by simp) (by simp) _ hx
   have kdst:∀d,o.dst=some d->d∈gZ o vs:=fun d hd=>keyd d hd (by simp) (by simp) (by simp)
   have kfn:∀x∈nm (vs f),x∈gZ o vs:=key f (by simp[Op.operands,Call.operands,hc]) (by simp) (by simp) (by simp)
   generalize c.args.toList.map vs=ds at *
   unfold hX at hE
   split at hE
   ·split at hE
    ·intro p hp
     rcases Lf hE p hp with hh|⟨d,hd,hx⟩
     ·exact kdst _ hh
     ·exact karg d hd _ hx
    split at hE
    ·intro p hp
     obtain⟨d,hd,hx⟩:=Lb hE p hp
     exact karg d hd _ hx
    split at hE
    ·split at hE
     ·intro p hp
      rcases AD hE p hp with hh|hh|⟨d,hd,hx⟩
      ·exact kdst _ hh
      ·exact karg _ agd _ (by rw[hh];simp[nm,hZ])
      ·exact karg d (age _ hd) _ hx
     ·intro p hp
      rcases AD hE p hp with hh|hh|⟨d,hd,hx⟩
      ·exact kdst _ hh
      ·exact karg _ agd _ (by rw[hh];simp[nm,hZ])
      ·exact karg d (age _ hd) _ hx
     ·cases hE
    ·intro p hp
     rcases AA hE p hp with hh|⟨d,hd,hx⟩
     ·exact kdst _ hh
     ·exact karg d hd _ hx
   ·rename_i g kk caps hfv
    split at hE
    ·rename_i hok
     rw[aeZ]at hok
     have kcap:∀d∈caps,∀x∈nm d,x∈gZ o vs:=fun d hd x hx=>by
      have:=hok d hd
      rw[Tv (fun f kk xs he=>by rw[he]at this;cases this)]at hx
      exact kfn _ (by rw[hfv];exact agb.2 ⟨d,hd,hx⟩)
     intro p hp
     rcases AA hE p hp with hh|⟨d,hd,hx⟩
     ·exact kdst _ hh
     ·rcases afV.1 hd with hd|hd
      ·exact kcap d (afy hd) _ hx
      ·rcases afV.1 hd with hd|hd
       ·exact karg d hd _ hx
       ·exact kcap d (afw hd) _ hx
    ·cases hE
   ·cases hE
  | builtin b =>
   rw[hc]at hE
   simp only at hE
   unfold ca at hE
   split at hE
   ·split at hE
    ·split at hE
     ·split at hE
      ·exact none_ _ hE
      ·exact none_ _ hE
      ·exact none_ _ hE
      ·cases hE
     ·cases hE
    ·cases hE
   ·rename_i s x hargs
    obtain⟨ps,px,hl,rfl,rfl⟩:=Tp hargs
    split at hE
    ·split at hE
     ·rename_i hd
      intro p hp
      rcases BA hE p hp with h1|h1
      ·rw[h1];exact keyd _ hd (by simp) (by simp) (by simp)
      ·exact key ps (by simp only[Op.operands,Call.operands,af0];exact ae3 _ (by rw[hl];simp)) (by simp) (by simp) (by simp) _ h1
     ·cases hE
    ·cases hE
   ·split at hE
    ·exact none_ _ hE
    ·cases hE
   ·split at hE
    ·exact none_ _ hE
    ·cases hE
   ·cases hE
end
theorem eU {h h':Nat->Option Row} {k:Nat} (hk:h (rt k)=h' (rt k)):EH h k=EH h' k:=by
 unfold EH
 unfold rt at hk
 split
 ·rename_i hlt;rw[if_pos hlt]at hk;rw[hk]
 ·rename_i hlt;rw[if_neg hlt]at hk;rw[hk]
theorem cO:PK=1000000:=rfl
theorem gq (x o:Nat):2*PK<=NK x o:=by unfold NK;rw[cO];omega
theorem rN {x:Nat} (o:Nat) (hx:x<PK):NK x o % PK=x:=by
 unfold NK
 rw[Nat.mul_add_mod]
 exact afI hx
theorem Cj {x:Nat} (o:Nat) (hx:x<PK):NK x o / PK-2=o:=by
 unfold NK
 rw[Nat.mul_add_div (by rw[cO];decide),Nat.div_eq_of_lt hx]
 omega
theorem KQ {k:Nat} (hk:2*PK<=k):k=NK (k % PK) (k / PK-2):=by
 unfold NK
 have h1:2<=k / PK:=by
  rw[Nat.le_div_iff_mul_le (by rw[cO];decide)]
  exact hk
 have h2:k / PK-2+2=k / PK:=by omega
 rw[h2]
 exact (Nat.div_add_mod k PK).symm
theorem HM (k:Nat):k % PK<PK:=Nat.mod_lt _ (by rw[cO];decide)
theorem uV {x o:Nat} (hx:x<PK):rt (NK x o)=x:=by
 unfold rt
 rw[if_neg (by have:=gq x o;omega),rN o hx]
theorem kv {k:Nat} (hk:k<2*PK):rt k=k:=if_pos hk
theorem wG {h:Nat->Option Row} {x o:Nat} (hx:x<PK):EH h (NK x o)=(h x).bind fun r=>rl r o:=by
 unfold EH
 rw[if_neg (by have:=gq x o;omega),rN o hx,Cj o hx]
theorem tN {h:Nat->Option Row} {k:Nat} (hk:k<2*PK):EH h k=(h k).map (B7 k):=if_pos hk
theorem ac3 (y:Nat) (r:Row):(B7 y r).v=r.v∧(B7 y r).ty=r.ty∧(B7 y r).fz=r.fz∧(B7 y r).lst=r.lst∧(B7 y r).mp=r.mp:=by
 unfold B7
 split<;>exact⟨rfl,rfl,rfl,rfl,rfl⟩
def LeC (d d':D):Prop:=d'=d∨((∃x s n,d=.ph x s n)∧d'=.und)
def RW (r r':Row):Prop:=r'=r∨(r.mp=true∧∃cs,r' = { r with cells:=cs }∧cs.length=r.cells.length∧∀(j:Nat) d d',r.cells[j]? = some d->cs[j]? = some d'->LeC d d')∨(r.mp=false∧∃k,r' = { r with cells:=r.cells.take k })
def Ch (h h':Nat->Option Row):Prop:=∀k r',h' k=some r'->∃r,h k=some r∧RW r r'
theorem RW.refl (r:Row):RW r r := .inl rfl
theorem Ch.refl (h:Nat->Option Row):Ch h h:=fun k r' hk=>⟨r',hk,.refl _⟩
theorem LeC.trans {a b c:D} (h:LeC a b) (k:LeC b c):LeC a c:=by
 rcases h with rfl|⟨h1,rfl⟩
 ·exact k
 ·rcases k with rfl|⟨⟨_,_,_,h2⟩,_⟩
  ·exact .inr ⟨h1,rfl⟩
  ·cases h2
theorem RW.trans {a b c:Row} (h:RW a b) (k:RW b c):RW a c:=by
 rcases h with rfl|⟨h1,cs,rfl,h2,h3⟩|⟨h1,n,rfl⟩
 ·exact k
 ·rcases k with rfl|⟨k1,cs',rfl,k2,k3⟩|⟨k1,_⟩
  ·exact .inr (.inl ⟨h1,cs,rfl,h2,h3⟩)
  ·refine .inr (.inl ⟨h1,cs',rfl,k2.trans h2,fun j d d' hd hd' =>?_⟩)
   have hlt:j<cs.length:=by
    have:=(afh.1 hd').1
    simp only at k2;omega
   exact (h3 j d _ hd (ae1 hlt)).trans (k3 j _ d' (ae1 hlt) hd')
  ·simp only at k1;rw[h1]at k1;cases k1
 ·rcases k with rfl|⟨k1,_⟩|⟨_,m,rfl⟩
  ·exact .inr (.inr ⟨h1,n,rfl⟩)
  ·simp only at k1;rw[h1]at k1;cases k1
  ·exact .inr (.inr ⟨h1,min m n,by simp[List.take_take]⟩)
theorem Ch.trans {a b c:Nat->Option Row} (h:Ch a b) (k:Ch b c):Ch a c:=fun x r hr=>by
 obtain⟨r1,h1,h2⟩:=k x r hr
 obtain⟨r2,h3,h4⟩:=h x r1 h1
 exact⟨r2,h3,h4.trans h2⟩
theorem Ch.b8 {a b:Nat->Option Row} (h:Ch a b) (x:Nat) (r:Option Row):Ch (b8 a x r) (b8 b x r):=fun y r' hr=>by
 by_cases hy:y=x
 ·subst hy
  rw[ay]at hr ⊢
  exact⟨r',hr,.refl _⟩
 ·rw[aC _ _ hy]at hr ⊢
  exact h y r' hr
theorem Ch.apply:∀(l:List (Nat×Option Row)) {a b:Nat->Option Row},Ch a b->Ch (aH a l) (aH b l)
 | [],_,_,h=>h
 | (x,r)::l,_,_,h=>Ch.apply l (h.b8 x r)
theorem RW.same {r r':Row} (h:RW r r'):r'.v=r.v∧r'.ty=r.ty∧r'.fz=r.fz∧r'.lst=r.lst∧r'.mp=r.mp:=by
 rcases h with rfl|⟨_,cs,rfl,_⟩|⟨_,k,rfl⟩<;>exact⟨rfl,rfl,rfl,rfl,rfl⟩
theorem RW.nil {r r':Row} (h:RW r r') (h0:r.cells=[]):r'.cells=[]:=by
 rcases h with rfl|⟨_,cs,rfl,h2,_⟩|⟨_,k,rfl⟩
 ·exact h0
 ·rw[h0]at h2;exact afW h2
 ·simp[h0]
theorem RW.cell {r r':Row} (h:RW r r') {j:Nat} {d':D} (hd:r'.cells[j]? = some d') (hne:d' ≠ .und):r.cells[j]? = some d':=by
 rcases h with rfl|⟨_,cs,rfl,h2,h3⟩|⟨_,k,rfl⟩
 ·exact hd
 ·have hlt:j<r.cells.length:=by
   have:=(afh.1 hd).1
   simp only at this;omega
  rcases h3 j _ d' (ae1 hlt) hd with rfl|⟨_,rfl⟩
  ·exact ae1 hlt
  ·exact absurd rfl hne
 ·simp only[ae4]at hd
  split at hd
  ·exact hd
  ·cases hd
theorem dM.le {w:World} {M:Nat->Prop} {g:Nat×Nat} {r r':Row} (h:dM w M g r) (hl:RW r r'):dM w M g r':=by
 rcases hl with rfl|⟨h1,cs,rfl,h2,h3⟩|⟨h1,k,rfl⟩
 ·exact h
 rotate_left
 ·unfold dM at h ⊢
  simp only[h1]at h ⊢
  obtain⟨arr,k1,k2,k3⟩:=h
  refine⟨arr,k1,by simp only[ae7];omega,fun j d hj =>?_⟩
  simp only[ae4]at hj
  split at hj
  ·exact k3 j d hj
  ·cases hj
 ·unfold dM at h ⊢
  simp only[h1]at h ⊢
  rcases h with⟨ks,vs,k1,k2⟩|⟨k1,arr,k2,k3,k4⟩
  ·have hcs:cs=r.cells:=by
    rw[k1]at h2
    match cs,h2 with
    | [d'],_ =>
     rcases h3 0 (.mpc ks vs) d' (by rw[k1];rfl) rfl with rfl|⟨⟨_,_,_,hh⟩,_⟩
     ·exact k1.symm
     ·cases hh
   subst hcs
   exact .inl ⟨ks,vs,k1,k2⟩
  ·have hat:∀(j:Nat) (d':D),cs[j]? = some d'->∃d,r.cells[j]? = some d∧LeC d d':=by
    intro j d' hd
    have hlt:j<r.cells.length:=by
     have:=(afh.1 hd).1
     omega
    exact⟨_,ae1 hlt,h3 j _ d' (ae1 hlt) hd⟩
   refine .inr ⟨fun d' hd =>?_,arr,k2,by simp only;omega,fun j d' hd =>?_⟩
   ·obtain⟨j,hj⟩:=afa hd
    obtain⟨d,hd1,hd2⟩:=hat j d' hj
    rcases hd2 with rfl|⟨_,rfl⟩
    ·exact k1 _ (afg hd1)
    ·rfl
   ·obtain⟨d,hd1,hd2⟩:=hat j d' hd
    rcases hd2 with rfl|⟨_,rfl⟩
    ·exact k4 j _ hd1
    ·trivial
section
variable {N:Nat} {M:Nat->Prop} {L:ky} {w0:World} {blk:Nat->Option (Nat×Nat)} {V:Nat->Nat->Prop} {t:Nat->D} {h h':Nat->Option Row} {a:Act} {w:World}
theorem Ez (hl:Ch h h') {b:Nat} (hb:¬Own M h blk b):¬Own M h' blk b:=by
 rintro (hb'|⟨x,r',g,hx,hz,hg,he⟩)
 ·exact hb (.inl hb')
 ·obtain⟨r,h1,h2⟩:=hl x r' hx
  exact hb (.inr ⟨x,r,g,h1,by rw[<- h2.same.2.2.1];exact hz,hg,he⟩)
theorem DW (hl:Ch h h'):F6 w w (Own M h blk) (Own M h' blk) h h' blk blk V V:=⟨fun b h1 h2=>⟨h1,Ez hl h2,rfl⟩,fun _ _ h=>h,fun x v _ r' h1 h2=>by
 obtain⟨r,k1,k2⟩:=hl x r' h1
 exact⟨⟨r,k1,by rw[<- k2.same.1];exact h2⟩,rfl,fun _ _=>rfl⟩⟩
theorem Inv.le (hI:Inv N M L w0 blk V t h a w) (hl:Ch h h'):Inv N M L w0 blk V t h' a w where
 tab:=hI.tab.keep fun b h1 h2=>⟨h1,Ez hl h2,rfl⟩
 below:=hI.below
 mlt:=hI.mlt
 lent:=hI.lent
 pin go hg:=⟨(hI.pin go hg).1,fun r' hr hv=>by
  obtain⟨r,k1,k2⟩:=hl 0 r' hr
  exact (hI.pin go hg).2 r k1 (by rw[<- k2.same.1];exact hv)⟩
 defers:=hI.defers
 tsz:=hI.tsz
 slots i:=(hI.slots i).mono (DW hl)
 rows x r' hx:=by
  obtain⟨r,k1,k2⟩:=hl x r' hx
  obtain⟨h1,h2⟩:=hI.rows x r k1
  refine⟨fun hn=>by rw[k2.same.1];exact h1 hn,?_⟩
  cases hb:blk x with
  | none =>
   rw[hb]at h2
   exact k2.nil h2
  | some g =>
   rw[hb]at h2
   exact⟨h2.1,(dM.le h2.2 k2).keep rfl rfl rfl rfl fun b q1 q2=>⟨q1,Ez hl q2,rfl⟩⟩
 inj x y r s g g' hx hy hg hg' he:=by
  obtain⟨r1,k1,_⟩:=hl x r hx
  obtain⟨r2,k2,_⟩:=hl y s hy
  exact hI.inj x y r1 r2 g g' k1 k2 hg hg' he
 big:=hI.big
 pha y r' g hy hm hg j x s n hc:=by
  obtain⟨r,k1,k2⟩:=hl y r' hy
  obtain⟨h0,u,q1,q2⟩:=hI.pha y r g k1 (by rw[<- k2.same.2.2.2.2];exact hm) hg j x s n (k2.cell hc (by intro h;cases h))
  exact⟨h0,u,q1,q2.mono fun r'' q3=>by
   obtain⟨r2,q4,_⟩:=hl x r'' q3
   exact⟨⟨r2,q4⟩,rfl,fun _ _=>rfl⟩⟩
 ali y r' g hy hz hls hg j c d' hj hd':=by
  obtain⟨r,k1,k2⟩:=hl y r' hy
  obtain⟨u,q1,q2⟩:=hI.ali y r g k1 (by rw[<- k2.same.2.2.1];exact hz) (by rw[<- k2.same.2.2.2.1];exact hls) hg j c d' (k2.cell hj (by intro h;subst h;cases hd')) hd'
  exact⟨u,q1,q2.mono (DW hl)⟩
theorem aZ.le {e:Nat} {dst:Option Nat} {E:bM} {v:Value} (hA:aZ N M L w0 V t h a e dst E v w) (hl:Ch (aH h E.hw) h') :
  ∃blk',Inv N M L w0 blk' (fun x n=>V x n∨(dst=some x∧n=e)) t h' a w∧RT w (Own M h' blk') h' blk' (fun x n=>V x n∨(dst=some x∧n=e)) E.val v:=by
 obtain⟨blk',h1,h2⟩:=hA
 exact⟨blk',h1.le hl,h2.mono (DW hl)⟩
end
theorem lk {cs:List D} {o:Nat} {d:D} (h:o<cs.length):(putCells cs o [d]).length=cs.length:=jb (show o+1<=cs.length from h)
theorem fL {cs:List D} {o:Nat} {d:D} (h:o<cs.length):(putCells cs o [d])[o]? = some d:=by
 rw[lD (show o+[d].length<=cs.length from h)]
 simp
theorem ir {cs:List D} {o j:Nat} {d:D} (h:o<cs.length) (hj:j≠o):(putCells cs o [d])[j]? = cs[j]?:=by
 rw[lD (show o+[d].length<=cs.length from h)]
 split
 ·rfl
 ·rw[if_neg (by simp;omega)]
def Ee:Option Row->Option Row
 | some r=>if r.mp then (match r.cells with | [.nr _ _ _ _]=>none|_=>some r) else some r
 | none=>none
def H6 (ty nv:Nat) (fz:Bool):Option Row->D->D
 | some r',.nx n _=>if r'.ty=ty∧r'.v=nv∧r'.fz=fz∧r'.lst=true∧r'.mp=false then .nx n r'.cells else .und
 | none,.nx n _ =>.und
 | _,d=>d
def Aj (ty s nv:Nat) (fz:Bool) (cs:List D) (o:Nat) (r:Option Row):Option D->List D
 | some d=>[.nr ty s nv (putCells cs o [H6 ty nv fz r d])]
 | none=>[.nr ty s nv cs]
def ED (o:Nat) (r:Option Row) (q:Row):Row :=
 if q.mp then
  match q.cells with
  | [.nr ty s nv cs]=>{ q with cells:=Aj ty s nv q.fz cs o r (cs.drop o).head? }
  | _=>q
 else q
def yP (h:Nat->Option Row) (k:Nat) (r:Option Row):Option Row:=@ite _ (k<2*PK) (ltB k (2*PK)) (Ee r) ((h (k % PK)).map (ED (k / PK-2) r))
def kr (h:Nat->Option Row):List (Nat×Option Row)->List (Nat×Option Row)
 | []=>[]
 | (k,r)::l=>(rt k,yP h k r)::kr (b8 h (rt k) (yP h k r)) l
theorem z7 {r:Option Row} {q:Row} {o:Nat} (h:Ee r=some q):r=some q∧rl q o=none∧∀y,B7 y q=q:=by
 unfold Ee at h
 split at h
 ·rename_i r0
  split at h
  ·rename_i hmp
   split at h
   ·cases h
   ·rename_i hne
    simp only[aeX]at h
    subst h
    refine⟨rfl,?_,fun y =>?_⟩
    ·unfold rl
     rw[if_pos hmp]
     unfold HO
     split
     ·rename_i hc;exact absurd hc (hne _ _ _ _)
     ·rfl
    ·unfold B7
     rw[if_pos hmp]
     have:skL y r0.cells=r0.cells:=by
      unfold skL
      split
      ·rename_i hc;exact absurd hc (hne _ _ _ _)
      ·rfl
     rw[this]
  ·rename_i hmp
   simp only[aeX]at h
   subst h
   exact⟨rfl,by unfold rl;rw[if_neg hmp],fun y=>by unfold B7;rw[if_neg hmp]⟩
 ·cases h
theorem Z2 (h:Nat->Option Row) (k:Nat) (r:Option Row):Ch (b8 (EH h) k r) (EH (b8 h (rt k) (yP h k r))):=by
 intro z r' hz
 by_cases hk:k<2*PK
 ·rw[kv hk]at hz
  unfold yP at hz
  rw[if_pos hk]at hz
  by_cases hzl:z<2*PK
  ·rw[tN hzl]at hz
   by_cases hzk:z=k
   ·subst hzk
    rw[ay]at hz ⊢
    rw[aeM]at hz
    obtain⟨q,h1,rfl⟩:=hz
    obtain⟨h2,_,h3⟩:=z7 (o:=0) h1
    rw[h3]
    exact⟨q,h2,.refl _⟩
   ·rw[aC _ _ hzk]at hz ⊢
    rw[<- tN hzl]at hz
    exact⟨r',hz,.refl _⟩
  ·rw[aC _ _ (by omega)]
   unfold EH at hz
   rw[if_neg hzl]at hz
   by_cases hzk:z % PK=k
   ·rw[hzk,ay]at hz
    rw[Option.bind_eq_some_iff]at hz
    obtain⟨q,h1,h2⟩:=hz
    rw[(z7 (o:=z / PK-2) h1).2.1]at h2
    cases h2
   ·rw[aC _ _ hzk]at hz
    exact⟨r',by unfold EH;rw[if_neg hzl];exact hz,.refl _⟩
 ·have hkn:=KQ (ags hk)
  have hroot:=HM k
  generalize k % PK=x at hkn hroot
  generalize k / PK-2=o at hkn
  subst hkn
  rw[uV hroot]at hz
  have hp1:yP h (NK x o) r=(h x).map (ED o r):=by
   unfold yP
   rw[if_neg hk,rN o hroot,Cj o hroot]
  rw[hp1]at hz
  cases hx:h x with
  | none =>
   rw[hx]at hz
   simp only[Option.map_none]at hz
   have hzz:EH h z=some r':=by
    rw[<- hz]
    apply eU
    by_cases hzx:rt z=x
    ·rw[hzx,ay,hx]
    ·rw[aC _ _ hzx]
   by_cases hzk:z=NK x o
   ·subst hzk
    rw[wG hroot,hx]at hzz
    cases hzz
   ·rw[aC _ _ hzk]
    exact⟨r',hzz,.refl _⟩
  | some q =>
   rw[hx]at hz
   simp only[Option.map_some]at hz
   by_cases hzx:rt z=x
   rotate_left
   ·have:EH h z=some r':=by rw[<- hz];exact eU (by rw[aC _ _ hzx])
    refine⟨r',?_,.refl _⟩
    rw[aC _ _ (fun e=>hzx (by rw[e,uV hroot]))]
    exact this
   by_cases hnr:q.mp=true∧∃ty s nv cs,q.cells=[.nr ty s nv cs]
   rotate_left
   ·have hq:ED o r q=q:=by
     unfold ED
     split
     ·rename_i hmp
      split
      ·rename_i ty s nv cs hc;exact absurd ⟨hmp,_,_,_,_,hc⟩ hnr
      ·rfl
     ·rfl
    rw[hq]at hz
    have hzz:EH h z=some r':=by
     rw[<- hz]
     exact eU (by rw[hzx,ay,hx])
    by_cases hzk:z=NK x o
    ·subst hzk
     rw[wG hroot,hx]at hzz
     simp only[Option.bind_some]at hzz
     unfold rl at hzz
     split at hzz
     ·rename_i hmp
      unfold HO at hzz
      split at hzz
      ·rename_i hc;exact absurd ⟨hmp,_,_,_,_,hc⟩ hnr
      ·cases hzz
     ·cases hzz
    ·rw[aC _ _ hzk]
     exact⟨r',hzz,.refl _⟩
   obtain⟨hmp,ty,s,nv,cs,hc⟩:=hnr
   have hq:ED o r q = { q with cells:=Aj ty s nv q.fz cs o r (cs.drop o).head? }:=by
    unfold ED
    rw[if_pos hmp,hc]
   rw[hq]at hz
   obtain⟨cs',hcs',hat⟩:∃cs':List D,Aj ty s nv q.fz cs o r (cs.drop o).head? = [.nr ty s nv cs']∧cs'.length=cs.length∧(∀j,j≠o->cs'[j]? = cs[j]?)∧∀d',cs'[o]? = some d'->∃d,cs[o]? = some d∧d'=H6 ty nv q.fz r d:=by
    rw[ahd]
    cases hd:cs[o]? with
    | none=>exact⟨cs,rfl,rfl,fun _ _=>rfl,fun d' hd'=>by rw[hd]at hd';cases hd'⟩
    | some d =>
     have hlt:=(afh.1 hd).1
     refine⟨_,rfl,lk hlt,fun j hj=>ir hlt hj,fun d' hd'=>⟨d,rfl,?_⟩⟩
     rw[fL hlt]at hd'
     simpa using hd'.symm
   rw[hcs']at hz
   obtain⟨hlen,hne,hso⟩:=hat
   by_cases hzl:z<2*PK
   ·rw[kv hzl]at hzx
    subst hzx
    rw[tN hzl,ay]at hz
    simp only[Option.map_some,aeX]at hz
    subst hz
    rw[aC _ _ (by have:=gq z o;omega),tN hzl,hx]
    refine⟨B7 z q,rfl,.inr (.inl ⟨by rw[(ac3 z q).2.2.2.2,hmp],cs'.mapIdx (qS z s),?_,?_,fun j d d' hd hd' =>?_⟩)⟩
    ·unfold B7
     simp only[hmp,if_true,skL]
    ·unfold B7
     simp only[hmp,if_true,skL,hc,ahe,hlen]
    ·unfold B7 at hd
     simp only[hmp,if_true,skL,hc,ahf,aeM]at hd
     rw[ahf,aeM]at hd'
     obtain⟨d0,hd0,rfl⟩:=hd
     obtain⟨d1,hd1,rfl⟩:=hd'
     by_cases hjo:j=o
     ·subst hjo
      obtain⟨d2,k1,rfl⟩:=hso _ hd1
      rw[hd0]at k1
      cases k1
      cases d0 with
      | nx n xs =>
       cases r with
       | none=>exact .inr ⟨⟨_,_,_,rfl⟩,rfl⟩
       | some r0 =>
        simp only[H6]
        split
        ·exact .inl rfl
        ·exact .inr ⟨⟨_,_,_,rfl⟩,rfl⟩
      | _=>cases r<;>exact .inl rfl
     ·rw[hne j hjo,hd0]at hd1
      cases hd1
      exact .inl rfl
   ·have hzn:=KQ (ags hzl)
    have hzx':z % PK=x:=by unfold rt at hzx;rwa [if_neg hzl]at hzx
    rw[hzx']at hzn
    generalize z / PK-2=oz at hzn
    subst hzn
    rw[wG hroot,ay]at hz
    simp only[Option.bind_some]at hz
    unfold rl at hz
    simp only[hmp,if_true,HO,ahd]at hz
    by_cases hoo:oz=o
    ·subst hoo
     rw[ay]
     cases hd:cs'[oz]? with
     | none=>rw[hd]at hz;cases hz
     | some d' =>
      obtain⟨d,k1,rfl⟩:=hso d' hd
      rw[hd]at hz
      cases r with
      | none=>cases d<;>cases hz
      | some r0 =>
       cases d with
       | nx n xs =>
        simp only[H6]at hz
        split at hz
        ·rename_i hcond
         obtain⟨rfl,rfl,h3,h4,h5⟩:=hcond
         simp only[Ed,aeX]at hz
         subst hz
         refine⟨r0,rfl,.inl ?_⟩
         cases r0
         simp only at h3 h4 h5 ⊢
         rw[h3,h4,h5]
        ·cases hz
       | _=>cases hz
    ·have hkk:NK x oz≠NK x o:=by
      unfold NK
      rw[cO]
      omega
     rw[aC _ _ hkk,wG hroot,hx]
     rw[hne oz hoo]at hz
     refine⟨r',?_,.refl _⟩
     simp only[Option.bind_some]
     unfold rl
     simp only[hmp,if_true,hc,HO,ahd]
     exact hz
theorem Mv:∀(l:List (Nat×Option Row)) (h:Nat->Option Row),Ch (aH (EH h) l) (EH (aH h (kr h l)))
 | [],h =>.refl _
 | (k,r)::l,h=>(Ch.apply l (Z2 h k r)).trans (Mv l _)
def pU (nv e:Nat):Option Nat:=if nv<=4*e then some (4*e+1) else if nv=4*e+2 then some (4*e+3) else none
def nrO (r:Row):List D->Option (Row×Nat×Nat×Nat×List D)
 | [.nr ty s nv cs]=>some (r,ty,s,nv,cs)
 | _=>none
def jB (h:Nat->Option Row) (x v:Nat):Option (Row×Nat×Nat×Nat×List D) :=
 match h x with
 | some r=>if r.v=v∧r.fz=false∧r.mp=true∧x<PK then nrO r r.cells else none
 | none=>none
theorem mW {h:Nat->Option Row} {x v:Nat} {r:Row} {ty s nv:Nat} {cs:List D} (hl:jB h x v=some (r,ty,s,nv,cs)):h x=some r∧r.v=v∧r.fz=false∧r.mp=true∧x<PK∧r.cells=[.nr ty s nv cs]:=by
 unfold jB at hl
 split at hl
 ·rename_i r0 hx
  split at hl
  ·rename_i hc
   obtain⟨c1,c2,c3,c4⟩:=hc
   unfold nrO at hl
   split at hl
   ·rename_i hcc
    simp only[aeX,Prod.mk.injEq]at hl
    obtain⟨rfl,rfl,rfl,rfl,rfl⟩:=hl
    exact⟨hx,c1,c2,c3,c4,hcc⟩
   ·cases hl
  ·cases hl
 ·cases hl
theorem ij {d:D} (hd:gr d=true):aU d=true∧phC d=true∧∀ {w:World} {M:Nat->Prop} {u:Value},Ck w M d u↔RP w M d u:=by
 cases d<;>first|exact⟨rfl,rfl,Iff.rfl⟩|cases hd
def unN:D->D
 | .nx n xs =>.sl false false n xs
 | d=>d
theorem gp {h:Nat->Option Row} {x:Nat} {r:Row} {ty s nv:Nat} {cs:List D} (hx:h x=some r) (hm:r.mp=true) (hc:r.cells=[.nr ty s nv cs]) (hp:x<PK):EH h x=some ⟨r.v,r.ty,cs.mapIdx (qS x s),r.fz,r.lst,true⟩:=by
 rw[tN (by have:=cO;omega),hx]
 simp only[Option.map_some,B7,hm,if_true,hc,skL]
theorem e9 {h:Nat->Option Row} {x:Nat} {r:Row} {ty s nv:Nat} {cs:List D} (hx:h x=some r) (hm:r.mp=true) (hc:r.cells=[.nr ty s nv cs]) (hp:x<PK) (o:Nat):EH h (NK x o)=Ed ty nv r.fz cs[o]?:=by
 rw[wG hp,hx]
 simp only[Option.bind_some,rl,hm,if_true,hc,HO,ahd]
theorem xe {x x' o o':Nat} (hx:x<PK) (hx':x'<PK) (h:NK x o=NK x' o'):x=x'∧o=o':=by
 unfold NK at h
 rw[cO]at *
 omega
def F7 (w:World) (blk:Nat->Option (Nat×Nat)) (k s n:Nat) (u:Value):Prop :=
 (∃g c N' ty,blk k=some g∧u=.slice (some ⟨g.1,g.2,none⟩) n c∧c*s+g.2=N'∧n<=c∧c<=maxLen∧w.shape? g.1=some (ty,N'))∨(blk k=none∧n=0∧∃A,u=.slice A 0 0)
section
variable {P:Program} {T:Nat->Option Ty} {N:Nat} {M:Nat->Prop} {L:ky} {w0:World} {blk:Nat->Option (Nat×Nat)} {V:Nat->Nat->Prop} {t:Nat->D} {h:Nat->Option Row} {a:Act} {w:World} {e:Nat} {o:Oper} {Γ:Env}
theorem Inv.HZ (hI:Inv N M L w0 blk V t (EH h) a w) {x:Nat} {r:Row} {ty s nv:Nat} {cs:List D} {g:Nat×Nat} (hx:h x=some r) (hm:r.mp=true) (hc:r.cells=[.nr ty s nv cs]) (hp:x<PK) (hg:blk x=some g) :
  ∃arr:Array Value,w.heap[g.1]? = some (.cells arr r.ty (0,0))∧g.2+cs.length<=arr.size∧∀(j:Nat) d,cs[j]? = some d->gr d=true->RP w (Own M (EH h) blk) d (arr.getD (g.2+j) undef):=by
 have hri:=hI.rowIs (gp hx hm hc hp) hg
 unfold dM at hri
 simp only at hri
 rcases hri with⟨ks,vs,k1,_⟩|⟨k1,arr,k2,k3,k4⟩
 ·exfalso
  simp only at k1
  have hl:cs.length=1:=by
   have:=congrArg List.length k1
   simpa using this
  match cs,hl with
  | [d],_ =>
   simp only[List.mapIdx_cons,List.mapIdx_nil,afc,and_true]at k1
   have:=nC x s 0 d
   rw[k1]at this
   cases this
 ·simp only[ahe]at k3
  refine⟨arr,k2,k3,fun j d hj hd =>?_⟩
  have hj':(cs.mapIdx (qS x s))[j]? = some d:=by rw[ahf,hj];exact congrArg some (mC hd)
  exact (ij hd).2.2.1 (k4 j _ hj')
theorem Inv.Eg (hI:Inv N M L w0 blk V t (EH h) a w) {x:Nat} {r:Row} {ty s nv n o:Nat} {cs xs:List D} {g:Nat×Nat} (hx:h x=some r) (hm:r.mp=true) (hc:r.cells=[.nr ty s nv cs]) (hp:x<PK) (hg:blk x=some g) (ho:cs[o]? = some (.nx n xs)) :
  ∃u,w.cell? ⟨g.1,g.2+o,none⟩=some u∧F7 w blk (NK x o) s n u:=by
 obtain⟨_,u,h1,h2⟩:=hI.pha x _ g (gp hx hm hc hp) rfl hg o (NK x o) s n (by simp only[ahf,ho,Option.map_some,qS])
 have hq:=e9 hx hm hc hp o
 rw[ho]at hq
 exact⟨u,h1,h2 _ hq⟩
def ZS:D->D->D
 | .nx n _,.nx _ xs' =>.nx n xs'
 | .nx _ _,_ =>.und
 | d,_=>d
def uG (cs cs':List D):List D:=List.zipWith ZS cs cs'
theorem xD {x k:Nat} (hk:rt k=x):k=x∨∃o,k=NK x o:=by
 by_cases hk2:k<2*PK
 ·rw[kv hk2]at hk;exact .inl hk
 ·have:=KQ (ags hk2)
  unfold rt at hk
  rw[if_neg hk2]at hk
  rw[hk]at this
  exact .inr ⟨_,this⟩
theorem abN (cs cs':List D) (j:Nat):(uG cs cs')[j]? = match cs[j]?,cs'[j]? with|some d,some d'=>some (ZS d d')|_,_=>none:=by
 unfold uG
 rw[List.getElem?_zipWith]
 cases cs[j]?<;>cases cs'[j]?<;>rfl
theorem QU {x:Nat} {r:Row} {ty s nv:Nat} {cs cs':List D} (hx:h x=some r) (hm:r.mp=true) (hc:r.cells=[.nr ty s nv cs]) (hz:r.fz=false) (hp:x<PK) (hlen:cs'.length=cs.length)
  (hnx:∀(j:Nat) n' xs',cs'[j]? = some (.nx n' xs')->∃n xs k,cs[j]? = some (.nx n xs)∧xs'=xs.take k):Ch (EH h) (EH (b8 h x (some ⟨r.v,r.ty,[.nr ty s nv (uG cs cs')],false,r.lst,true⟩))):=by
 have hmid:=abN cs cs'
 have hml:(uG cs cs').length=cs.length:=by simp[uG,hlen]
 have hat:∀(j:Nat) d,cs[j]? = some d->∃d',cs'[j]? = some d':=by
  intro j d hj
  have:=(afh.1 hj).1
  exact⟨_,ae1 (by omega)⟩
 have hat':∀(j:Nat) d',cs'[j]? = some d'->∃d,cs[j]? = some d:=by
  intro j d hj
  have:=(afh.1 hj).1
  exact⟨_,ae1 (by omega)⟩
 generalize hD:b8 h x (some ⟨r.v,r.ty,[.nr ty s nv (uG cs cs')],false,r.lst,true⟩)=hh
 have hDx:hh x=some ⟨r.v,r.ty,[.nr ty s nv (uG cs cs')],false,r.lst,true⟩:=by rw[<- hD,ay]
 have hDne:∀y,y≠x->hh y=h y:=fun y hy=>by rw[<- hD,aC _ _ hy]
 have hrt:∀ {h1 h2:Nat->Option Row},(∀y,y≠x->h1 y=h2 y)->∀k,rt k≠x->EH h1 k=EH h2 k:=fun he k hk=>eU (he _ hk)
 have hkey:∀k,rt k=x->k=x∨∃o,k=NK x o:=by
  intro k hk
  by_cases hk2:k<2*PK
  ·rw[kv hk2]at hk;exact .inl hk
  ·have:=KQ (ags hk2)
   unfold rt at hk
   rw[if_neg hk2]at hk
   rw[hk]at this
   exact .inr ⟨_,this⟩
 intro k r' hk
 by_cases hkx:rt k=x
 rotate_left
 ·exact⟨r',by rw[<- hk];exact hrt (fun y hy=>(hDne y hy).symm) k hkx,.refl _⟩
 rcases hkey k hkx with rfl|⟨o,rfl⟩
 ·rw[gp hDx rfl rfl hp]at hk
  simp only[aeX]at hk
  subst hk
  refine⟨_,gp hx hm hc hp,.inr (.inl ⟨rfl,(uG cs cs').mapIdx (qS k s),by rw[hz],by simp[hml],fun j d d' hd hd' =>?_⟩)⟩
  simp only[ahf,aeM]at hd hd'
  obtain⟨d0,hd0,rfl⟩:=hd
  obtain⟨d1,hd1,rfl⟩:=hd'
  obtain⟨d2,hd2⟩:=hat j d0 hd0
  rw[hmid,hd0,hd2]at hd1
  simp only[aeX]at hd1
  subst hd1
  cases d0 with
  | nx n xs =>
   cases d2 with
   | nx n' xs'=>exact .inl rfl
   | _=>exact .inr ⟨⟨_,_,_,rfl⟩,rfl⟩
  | _=>exact .inl rfl
 ·rw[e9 hDx rfl rfl hp,hmid]at hk
  cases hd:cs[o]? with
  | none=>rw[hd]at hk;cases hk
  | some d =>
   obtain⟨d',hd'⟩:=hat o d hd
   rw[hd,hd']at hk
   cases d with
   | nx n xs =>
    cases d' with
    | nx n' xs' =>
     obtain⟨n0,xs0,k,e1,e2⟩:=hnx o n' xs' hd'
     rw[hd]at e1
     cases e1
     simp only[ZS,Ed,aeX]at hk
     subst hk
     refine⟨_,by rw[e9 hx hm hc hp,hd];rfl,.inr (.inr ⟨rfl,k,by rw[e2,hz]⟩)⟩
    | _=>cases hk
   | _=>cases hk
theorem Inv.Aj (hI:Inv N M L w0 blk V t (EH h) a w) {x:Nat} {r:Row} {ty s nv:Nat} {cs cs':List D} (hx:h x=some r) (hm:r.mp=true) (hc:r.cells=[.nr ty s nv cs]) (hz:r.fz=false) (hp:x<PK) (hlen:cs'.length=cs.length) {w':World}
  (hos:w'.os=w.os) (htape:w'.tape=w.tape) (hout:w'.output=w.output) (hsize:w.heap.size<=w'.heap.size) (hheap:∀b,b<w.heap.size->(∀g,blk x=some g->b≠g.1)->w'.heap[b]? = w.heap[b]?)
  (hnx:∀(j:Nat) n' xs',cs'[j]? = some (.nx n' xs')->∃n xs k,cs[j]? = some (.nx n xs)∧xs'=xs.take k)
  (hnew:∀g,blk x=some g->w'.shape? g.1=w.shape? g.1∧∃arr:Array Value,w'.heap[g.1]? = some (.cells arr r.ty (0,0))∧g.2+cs.length<=arr.size∧∀(j:Nat) d,cs'[j]? = some d ->
   (gr d=true->RP w' (Own M (EH (b8 h x (some ⟨r.v,r.ty,[.nr ty s nv (uG cs cs')],false,r.lst,true⟩))) blk) d (arr.getD (g.2+j) undef))∧∀n' xs',d=.nx n' xs'->F7 w blk (NK x j) s n' (arr.getD (g.2+j) undef)) :
  Inv N M L w0 blk V t (EH (b8 h x (some ⟨r.v,r.ty,[.nr ty s nv cs'],false,r.lst,true⟩))) a w':=by
 have hmid:∀(j:Nat),(uG cs cs')[j]? = match cs[j]?,cs'[j]? with|some d,some d'=>some (ZS d d')|_,_=>none:=by
  intro j
  unfold uG
  rw[List.getElem?_zipWith]
  cases cs[j]?<;>cases cs'[j]?<;>rfl
 have hml:(uG cs cs').length=cs.length:=by simp[uG,hlen]
 have hat:∀(j:Nat) d,cs[j]? = some d->∃d',cs'[j]? = some d':=by
  intro j d hj
  have:=(afh.1 hj).1
  exact⟨_,ae1 (by omega)⟩
 have hat':∀(j:Nat) d',cs'[j]? = some d'->∃d,cs[j]? = some d:=by
  intro j d hj
  have:=(afh.1 hj).1
  exact⟨_,ae1 (by omega)⟩
 generalize hD:b8 h x (some ⟨r.v,r.ty,[.nr ty s nv (uG cs cs')],false,r.lst,true⟩)=hh at hnew
 have hDx:hh x=some ⟨r.v,r.ty,[.nr ty s nv (uG cs cs')],false,r.lst,true⟩:=by rw[<- hD,ay]
 have hDne:∀y,y≠x->hh y=h y:=fun y hy=>by rw[<- hD,aC _ _ hy]
 have hrt:∀ {h1 h2:Nat->Option Row},(∀y,y≠x->h1 y=h2 y)->∀k,rt k≠x->EH h1 k=EH h2 k:=fun he k hk=>eU (he _ hk)
 have hkey:∀k,rt k=x->k=x∨∃o,k=NK x o:=by
  intro k hk
  by_cases hk2:k<2*PK
  ·rw[kv hk2]at hk;exact .inl hk
  ·have:=KQ (ags hk2)
   unfold rt at hk
   rw[if_neg hk2]at hk
   rw[hk]at this
   exact .inr ⟨_,this⟩
 have hle:Ch (EH h) (EH hh):=by rw[<- hD];exact QU hx hm hc hz hp hlen hnx
 have hA:=hI.le hle
 have hB:=hA.nR (x:=x) (r:=⟨r.v,r.ty,(uG cs cs').mapIdx (qS x s),false,r.lst,true⟩) (r0:=⟨r.v,r.ty,cs'.mapIdx (qS x s),false,r.lst,true⟩) (w':=w') (gp hDx rfl rfl hp) rfl rfl hos htape hout hsize hheap (by
   cases hb:blk x with
   | none =>
    have:=(hI.rows x _ (gp hx hm hc hp)).2
    rw[hb]at this
    have h1:cs.mapIdx (qS x s)=[]:=this
    have h2:cs.length=0:=by
     have:=congrArg List.length h1
     simpa using this
    show cs'.mapIdx (qS x s)=[]
    rw[afW (hlen.trans h2)]
    rfl
   | some g =>
    obtain⟨k1,arr,k2,k3,k4⟩:=hnew g hb
    refine⟨k1,.inr ⟨fun d hd =>?_,arr,k2,by simp only[ahe];omega,fun j d hj =>?_⟩⟩
    ·obtain⟨j,hj⟩:=afa hd
     simp only[ahf,aeM]at hj
     obtain⟨d0,hd0,rfl⟩:=hj
     exact nC _ _ _ _
    ·simp only[ahf,aeM]at hj
     obtain⟨d0,hd0,rfl⟩:=hj
     by_cases hdd:gr d0=true
     ·rw[mC hdd]
      exact (ij hdd).2.2.2 ((k4 j d0 hd0).1 hdd)
     ·cases d0<;>first|trivial|exact absurd rfl hdd) (fun h=>by cases h) (fun _ g hg j x' s' n' hj=>by
   obtain⟨k1,arr,k2,k3,k4⟩:=hnew g hg
   simp only[ahf,aeM]at hj
   obtain⟨d0,hd0,he⟩:=hj
   obtain⟨xs1,rfl,rfl,rfl⟩:=xE he
   have hlt:=(afh.1 hd0).1
   exact⟨⟨hp,.inr rfl⟩,_,bu k2 (by omega),fun _ _=>(k4 j _ hd0).2 n' xs1 rfl⟩)
 have hfin:b8 (EH hh) x (some (⟨r.v,r.ty,cs'.mapIdx (qS x s),false,r.lst,true⟩:Row))=EH (b8 h x (some ⟨r.v,r.ty,[.nr ty s nv cs'],false,r.lst,true⟩)):=by
  have hx':b8 h x (some (⟨r.v,r.ty,[.nr ty s nv cs'],false,r.lst,true⟩:Row)) x=some ⟨r.v,r.ty,[.nr ty s nv cs'],false,r.lst,true⟩:=ay _ _ _
  funext k
  by_cases hkx:rt k=x
  rotate_left
  ·rw[aC _ _ (fun e=>hkx (by rw[e,kv (by have:=cO;omega)]))]
   exact hrt (fun y hy=>by rw[hDne y hy,aC _ _ hy]) k hkx
  rcases hkey k hkx with rfl|⟨o,rfl⟩
  ·rw[ay,gp hx' rfl rfl hp]
  ·rw[aC _ _ (by have:=gq x o;have:=cO;omega),e9 hDx rfl rfl hp,e9 hx' rfl rfl hp,hmid]
   cases hd':cs'[o]? with
   | none=>cases cs[o]?<;>rfl
   | some d' =>
    obtain⟨d,hd⟩:=hat' o d' hd'
    rw[hd]
    cases d' with
    | nx n' xs' =>
     obtain⟨n0,xs0,k,e1,_⟩:=hnx o n' xs' hd'
     rw[hd]at e1
     cases e1
     rfl
    | _=>cases d<;>rfl
 rw[<- hfin]
 exact hB
theorem Inv.acZ (hI:Inv N M L w0 blk V t h a w) (S:Nat->Prop) (nv:Nat) (hS:∀k,S k->N<=k∧k≠0∧¬V k nv) {h':Nat->Option Row} (he:∀k,S k->h' k=(h k).map fun r=>{ r with v:=nv }) (hne:∀k,¬S k->h' k=h k):Inv N M L w0 blk V t h' a w:=by
 have hf:∀x r',h' x=some r'->∃r,h x=some r∧r' = { r with v:=r'.v }∧(¬S x->r'=r)∧(S x->r'.v=nv):=by
  intro x r' hx
  by_cases hs:S x
  ·rw[he x hs,aeM]at hx
   obtain⟨r,h1,rfl⟩:=hx
   exact⟨r,h1,rfl,fun hn=>absurd hs hn,fun _=>rfl⟩
  ·rw[hne x hs]at hx
   exact⟨r',hx,rfl,fun _=>rfl,fun h=>absurd h hs⟩
 have hsame:∀ {r r':Row},r' = { r with v:=r'.v }->r'.ty=r.ty∧r'.cells=r.cells∧r'.fz=r.fz∧r'.lst=r.lst∧r'.mp=r.mp:=by
  intro r r' h
  rw[h]
  exact⟨rfl,rfl,rfl,rfl,rfl⟩
 have ho:∀b,¬Own M h blk b->¬Own M h' blk b:=by
  intro b hb hb'
  rcases hb' with hb'|⟨x,r',g,hx,hz,hg,e⟩
  ·exact hb (.inl hb')
  ·obtain⟨r,h1,h2,_⟩:=hf x r' hx
   exact hb (.inr ⟨x,r,g,h1,by rw[<- (hsame h2).2.2.1];exact hz,hg,e⟩)
 have hkp:F6 w w (Own M h blk) (Own M h' blk) h h' blk blk V V:=⟨fun b h1 h2=>⟨h1,ho b h2,rfl⟩,fun _ _ h=>h,fun x v hv r' h1 h2=>by
  obtain⟨r,k1,k2,k3,k4⟩:=hf x r' h1
  by_cases hs:S x
  ·rw[k4 hs]at h2
   subst h2
   exact absurd hv (hS x hs).2.2
  ·obtain rfl:=k3 hs
   exact⟨⟨r',k1,h2⟩,rfl,fun _ _=>rfl⟩⟩
 exact {
  tab:=hI.tab.keep fun b h1 h2=>⟨h1,ho b h2,rfl⟩
  below:=hI.below
  mlt:=hI.mlt
  lent:=hI.lent
  pin:=fun go hg=>⟨(hI.pin go hg).1,fun r' hr hv=>by
   obtain⟨r,k1,k2,k3,k4⟩:=hf 0 r' hr
   obtain rfl:=k3 (fun hs=>(hS 0 hs).2.1 rfl)
   exact (hI.pin go hg).2 r' k1 hv⟩
  defers:=hI.defers
  tsz:=hI.tsz
  slots:=fun i=>(hI.slots i).mono hkp
  rows:=fun x r' hx=>by
   obtain⟨r,k1,k2,k3,k4⟩:=hf x r' hx
   obtain⟨h1,h2⟩:=hI.rows x r k1
   refine⟨fun hn =>?_,?_⟩
   ·obtain rfl:=k3 (fun hs=>by have:=(hS x hs).1;omega)
    exact h1 hn
   ·cases hb:blk x with
    | none=>rw[hb]at h2;exact (hsame k2).2.1.trans h2
    | some g =>
     rw[hb]at h2
     exact⟨h2.1,h2.2.keep (hsame k2).2.1 (hsame k2).1 (hsame k2).2.2.2.2 rfl fun b q1 q2=>⟨q1,ho b q2,rfl⟩⟩
  inj:=fun x y r s g g' hx hy hg hg' e=>by
   obtain⟨r1,k1,_⟩:=hf x r hx
   obtain⟨r2,k2,_⟩:=hf y s hy
   exact hI.inj x y r1 r2 g g' k1 k2 hg hg' e
  big:=hI.big
  pha:=fun y r' g hy hm hg j x s n hc=>by
   obtain⟨r,k1,k2,_⟩:=hf y r' hy
   obtain⟨h0,u,q1,q2⟩:=hI.pha y r g k1 (by rw[<- (hsame k2).2.2.2.2];exact hm) hg j x s n (by rw[<- (hsame k2).2.1];exact hc)
   exact⟨h0,u,q1,q2.mono fun r'' q3=>by
    obtain⟨r2,q4,_⟩:=hf x r'' q3
    exact⟨⟨r2,q4⟩,rfl,fun _ _=>rfl⟩⟩
  ali:=fun y r' g hy hz hls hg j c d' hj hd'=>by
   obtain⟨r,k1,k2,_⟩:=hf y r' hy
   obtain⟨u,q1,q2⟩:=hI.ali y r g k1 (by rw[<- (hsame k2).2.2.1];exact hz) (by rw[<- (hsame k2).2.2.2.1];exact hls) hg j c d' (by rw[<- (hsame k2).2.1];exact hj) hd'
   exact⟨u,q1,q2.mono hkp⟩ }
end
def DX (τ:Ty) (x s nv o:Nat) (cs:List D):Option D->Option bM
 | some (.nx n xs)=>if τ.size=1∧τ.ds.oQ=false then some ⟨.buf (NK x o) nv s 0 n,[]⟩ else none
 | some _=>if o+τ.size<=cs.length∧((cs.drop o).take τ.size).all gr=true then (match mg τ ((cs.drop o).take τ.size) with|some d=>some ⟨d,[]⟩|none=>none) else none
 | none=>none
def n7 (τ:Ty) (h:Nat->Option Row):D->Option bM
 | .ptr x v o =>
  match jB h x v with
  | some (r,ty,s,nv,cs)=>DX τ x s nv o cs (cs.drop o).head?
  | none=>none
 | _=>none
def An (x:Nat) (r:Row) (ty s nv:Nat) (cs:List D) (o n:Nat):Option D->Option bM
 | some (.nx n0 xs)=>if n*s<=xs.length then some ⟨.und,[(x,some ⟨r.v,r.ty,[.nr ty s nv (putCells cs o [.nx n (xs.take (n*s))])],false,r.lst,true⟩)]⟩ else none
 | _=>none
def Ao (x:Nat) (r:Row) (ty s:Nat) (cs:List D) (o y n:Nat) (q:Row):Option Nat->Option bM
 | some nv'=>some ⟨.und,[(y,none),(x,some ⟨r.v,r.ty,[.nr ty s nv' (putCells cs o [.nx n q.cells])],false,r.lst,true⟩)]⟩
 | none=>none
def plV:D->Option (List D)
 | .agg xs=>some xs
 | .int k n=>some [.int k n]
 | .bool b=>some [.bool b]
 | .str s=>some [.str s]
 | .sl a b n xs=>some [.sl a b n xs]
 | _=>none
def Ap (τ:Ty) (x:Nat) (r:Row) (ty s nv:Nat) (cs:List D) (o:Nat):Option (List D)->Option bM
 | some c'=>if c'.length=τ.size∧c'.all gr=true then some ⟨.und,[(x,some ⟨r.v,r.ty,[.nr ty s nv (putCells cs o (c'.map canon))],false,r.lst,true⟩)]⟩ else none
 | none=>none
def wD (τ:Ty) (e:Nat) (h:Nat->Option Row) (x:Nat) (r:Row) (ty s nv:Nat) (cs:List D) (o:Nat):D->Option bM
 | .buf y vy s' oy n =>
  if τ.size=1∧s'=s∧oy=0 then
   if y=NK x o then (if vy=nv then An x r ty s nv cs o n (cs.drop o).head? else none)
   else if y<PK then
    match live h y vy with
    | some q=>if q.fz=false∧q.lst=true∧q.ty=ty∧q.cells.length=n*s then Ao x r ty s cs o y n q (pU nv e) else none
    | none=>none
   else none
  else none
 | d=>Ap τ x r ty s nv cs o (plV d)
def l4 (τ:Ty) (e:Nat) (h:Nat->Option Row) (p d:D):Option bM :=
 match p with
 | .ptr x v o =>
  match jB h x v with
  | some (r,ty,s,nv,cs)=>if o+τ.size<=cs.length∧0<τ.size then wD τ e h x r ty s nv cs o d else none
  | none=>none
 | _=>none
section
variable {P:Program} {T:Nat->Option Ty} {N:Nat} {M:Nat->Prop} {L:ky} {w0:World} {blk:Nat->Option (Nat×Nat)} {V:Nat->Nat->Prop} {t:Nat->D} {h:Nat->Option Row} {a:Act} {w:World} {e:Nat} {o:Oper} {Γ:Env}
def qE (N:Nat) (M:Nat->Prop) (L:ky) (w0:World) (V:Nat->Nat->Prop) (t:Nat->D) (h:Nat->Option Row) (a:Act) (e:Nat) (dst:Option Nat) (E:bM) (v:Value) (w':World):Prop :=
 ∃blk',Inv N M L w0 blk' (fun x n=>V x n∨(dst=some x∧n=e)) t (EH (aH h E.hw)) a w' ∧
  RT w' (Own M (EH (aH h E.hw)) blk') (EH (aH h E.hw)) blk' (fun x n=>V x n∨(dst=some x∧n=e)) E.val v
def VNr (V:Nat->Nat->Prop) (h:Nat->Option Row):Prop:=∀x r ty s nv cs,h x=some r->r.mp=true->r.cells=[.nr ty s nv cs]->x<PK->∀o,V (NK x o) nv
theorem WV (hT:kq P T) (hI:Inv N M L w0 blk V t (EH h) a w) (hVn:VNr V h) {ty:Nat} {p:Operand} {τ:Ty} {E:bM} (ho:o.op=.load ty p) (hτ:T ty=some τ) (hE:n7 τ h (ev t p)=some E):eK P o a w (qE N M L w0 V t h a e o.dst E):=by
 have hp:=hI.ev p
 generalize ev t p=q at *
 unfold n7 at hE
 split at hE<;>try (cases hE;done)
 rename_i x v c
 split at hE<;>try (cases hE;done)
 rename_i r ty' s nv cs hl
 obtain⟨hx,hv,hz,hm,hp1,hc⟩:=mW hl
 have hEx:=gp hx hm hc hp1
 obtain⟨g,hg,hpv⟩:=hp.2 _ hEx hv
 rw[ahd]at hE
 unfold DX at hE
 split at hE
 ·rename_i n xs hn
  split at hE<;>try (cases hE;done)
  rename_i hcond
  obtain⟨c1,c2⟩:=hcond
  simp only[aeX]at hE
  subst hE
  obtain⟨u,h1,h2⟩:=hI.Eg hx hm hc hp1 hg hn
  have hrun:=kl (hT ty τ hτ) w g.1 (g.2+c) [u] (by simpa using c1.symm) (fun j v hj=>by
   cases j with
   | zero=>simp only[List.getElem?_cons_zero,aeX]at hj;subst hj;simpa using h1
   | succ j=>simp at hj) (fun _=>rfl)
  rw[c2]at hrun
  refine aE (v:=u) (w':=w) ?_ ?_
  ·simp[execOp,ho,Instr.loadAt,Instr.sureAddr,hpv,hrun]
  ·refine aZ.dA (h:=EH h) hI ⟨hVn x r ty' s nv cs hx hm hc hp1 c,fun r' k1 k2 =>?_⟩
   rcases h2 with⟨g',c',N',t',q1,rfl,q3,q4,q5,q6⟩|⟨q1,rfl,q3⟩
   ·exact .inl ⟨g',g'.2,c',N',t',q1,rfl,fun _=>⟨rfl,q3⟩,q4,q5,q6⟩
   ·exact .inr ⟨q1,rfl,q3⟩
 ·rename_i d0 hnn hd0
  split at hE<;>try (cases hE;done)
  rename_i hcond
  obtain⟨c1,c2⟩:=hcond
  split at hE<;>try (cases hE;done)
  rename_i d hd
  simp only[aeX]at hE
  subst hE
  have hat:At w (Own M (EH h) blk) g.1 (g.2+c) ((cs.drop c).take τ.size):=by
   intro j d1 hj
   have hdc:=aeZ.1 c2 d1 (afg hj)
   have hj':cs[c+j]? = some d1:=by
    rw[ae4]at hj
    split at hj
    ·rwa [ae5]at hj
    ·cases hj
   obtain⟨arr,k1,k2,k3⟩:=hI.HZ hx hm hc hp1 hg
   have hlt:=(afh.1 hj').1
   refine⟨(ij hdc).1,_,?_,k3 _ _ hj' hdc⟩
   rw[ae9]
   exact bu k1 (by omega)
  exact uh hT hI ho hτ hpv hat (by simp;omega) hd
 ·cases hE
theorem Da (hT:kq P T) (hI:Inv N M L w0 blk V t (EH h) a w) {ty y c ty' s nv:Nat} {p x:Operand} {τ:Ty} {r:Row} {cs cs':List D} {us:List Value} {g:Nat×Nat} (ho:o.op=.store ty p x) (hτ:T ty=some τ)
  (hx:h y=some r) (hm:r.mp=true) (hc:r.cells=[.nr ty' s nv cs]) (hz:r.fz=false) (hp1:y<PK) (hg:blk y=some g) (hpv:a.eval p=.pointer (some ⟨g.1,g.2+c,none⟩)) (hus:(a.eval x).cells.toList=us) (hul:us.length=τ.size) (hle:c+τ.size<=cs.length) (h1:∀u∈us,u.oneCell'=true)
  (hlen:cs'.length=cs.length) (hnx:∀(j:Nat) n' xs',cs'[j]? = some (.nx n' xs')->∃n xs k,cs[j]? = some (.nx n xs)∧xs'=xs.take k) (hout:∀j,(j<c∨c+τ.size<=j)->cs'[j]? = cs[j]?)
  (hin:∀(j:Nat) d,j<τ.size->cs'[c+j]? = some d->(gr d=true->RP w (Own M (EH h) blk) d (us.getD j undef))∧∀n' xs',d=.nx n' xs'->F7 w blk (NK y (c+j)) s n' (us.getD j undef)) :
  eK P o a w (qE N M L w0 V t h a e o.dst ⟨.und,[(y,some ⟨r.v,r.ty,[.nr ty' s nv cs'],false,r.lst,true⟩)]⟩):=by
 obtain⟨arr,k1,k2,k3⟩:=hI.HZ hx hm hc hp1 hg
 have hrun:=run_storeCells_at P g.1 (g.2+c) r.ty us 0 arr w k1 (by omega) h1
 rw[afn]at hrun
 have hsz:(arr.toList.take (g.2+c)++us++arr.toList.drop (g.2+c+us.length)).toArray.size=arr.size:=by simp;omega
 have hget:∀j,j<cs.length->(arr.toList.take (g.2+c)++us++arr.toList.drop (g.2+c+us.length)).toArray.getD (g.2+j) undef=if j<c then arr.getD (g.2+j) undef else if j<c+us.length then us.getD (j-c) undef else arr.getD (g.2+j) undef:=by
  intro j hj
  rw[uX arr us (g.2+c) (g.2+j) (by omega)]
  by_cases hjc:j<c
  ·rw[if_pos (by omega),if_pos hjc]
  ·rw[if_neg (by omega),if_neg hjc]
   by_cases hju:j<c+us.length
   ·rw[if_pos (by omega),if_pos hju]
    congr 1
    omega
   ·rw[if_neg (by omega),if_neg hju]
 generalize hnv:(arr.toList.take (g.2+c)++us++arr.toList.drop (g.2+c+us.length)).toArray=arr' at hrun hsz hget
 have hnew:(w.setRow g.1 arr').heap[g.1]? = some (.cells arr' r.ty (0,0)):=setRow_heap w g.1 arr arr' r.ty (0,0) k1
 have hhs:(w.setRow g.1 arr').heap.size=w.heap.size:=by simp[World.setRow]
 have hheap:∀b,b≠g.1->(w.setRow g.1 arr').heap[b]? = w.heap[b]?:=by
  intro b hb
  simp only[World.setRow,aeY]
  rw[if_neg (Ne.symm hb)]
 have hown:Own M (EH h) blk g.1 := .inr ⟨y,_,g,gp hx hm hc hp1,hz,hg,rfl⟩
 have hml:=QU hx hm hc hz hp1 hlen hnx
 have hkeep:∀ {d:D} {u:Value},RP w (Own M (EH h) blk) d u->RP (w.setRow g.1 arr') (Own M (EH (b8 h y (some ⟨r.v,r.ty,[.nr ty' s nv (uG cs cs')],false,r.lst,true⟩))) blk) d u:=fun hr=>hr.keep fun b q1 q2=>⟨by rw[hhs];exact q1,Ez hml q2,hheap b (fun e=>q2 (e ▸ hown))⟩
 have hS:=hI.Aj (cs':=cs') (w':=w.setRow g.1 arr') hx hm hc hz hp1 hlen rfl rfl rfl (by rw[hhs];exact aeO _) (fun b _ hb=>hheap b (hb g hg)) hnx (fun g' hg'=>by
  rw[hg]at hg'
  cases hg'
  refine⟨by simp[World.shape?,hnew,k1,hsz],arr',hnew,by omega,fun j d hj =>?_⟩
  have hjl:j<cs.length:=by
   have:=(afh.1 hj).1
   omega
  rw[hget j hjl]
  by_cases hjin:c<=j∧j<c+τ.size
  ·rw[if_neg (by omega),if_pos (by omega)]
   obtain⟨i,rfl⟩:∃i,j=c+i:=⟨j-c,by omega⟩
   rw[af3]
   obtain⟨q1,q2⟩:=hin i d (by omega) hj
   exact⟨fun hd=>hkeep (q1 hd),q2⟩
  ·have hov:(if j<c then arr.getD (g.2+j) undef else if j<c+us.length then us.getD (j-c) undef else arr.getD (g.2+j) undef)=arr.getD (g.2+j) undef:=by
    split
    ·rfl
    ·rw[if_neg (by omega)]
   rw[hov]
   rw[hout j (by omega)]at hj
   refine⟨fun hd=>hkeep (k3 j d hj hd),fun n' xs' he =>?_⟩
   subst he
   obtain⟨u,q1,q2⟩:=hI.Eg hx hm hc hp1 hg hj
   rw[bu k1 (by omega)]at q1
   cases q1
   exact q2)
 refine .inr (.inl ⟨w.setRow g.1 arr',?_,blk,?_,trivial⟩)
 ·have hcs:(a.eval x).cells.size=τ.size:=by rw[<- hul,<- hus];simp
  have hrun':(storeCells ⟨g.1,g.2+c,none⟩ (a.eval x).cells.toList 0).run P w=.ok () (w.setRow g.1 arr'):=by rw[hus];exact hrun
  simp[execOp,ho,Instr.storeAt,Instr.sureAddr,hpv,storeVar,run_sizeOf (hT ty τ hτ),hcs,hrun']
 ·exact hS.weaken fun _ _ h =>.inl h
theorem Kp {g:Nat×Nat} {arr arr':Array Value} {ty:Nat} (k1:w.heap[g.1]? = some (.cells arr ty (0,0))):(w.setRow g.1 arr').heap[g.1]? = some (.cells arr' ty (0,0))∧(w.setRow g.1 arr').heap.size=w.heap.size∧∀b,b≠g.1->(w.setRow g.1 arr').heap[b]? = w.heap[b]?:=by
 refine⟨setRow_heap w g.1 arr arr' ty (0,0) k1,by simp[World.setRow],fun b hb =>?_⟩
 simp only[World.setRow,aeY]
 rw[if_neg (Ne.symm hb)]
theorem Inv.aei (hI:Inv N M L w0 blk V t (EH h) a w) {y c ty' s nv:Nat} {r:Row} {cs:List D} (hx:h y=some r) (hm:r.mp=true) (hc:r.cells=[.nr ty' s nv cs]) (hz:r.fz=false) (hp1:y<PK) (hle:c<cs.length) :
  Inv N M L w0 blk V t (EH (b8 h y (some ⟨r.v,r.ty,[.nr ty' s nv (putCells cs c [.und])],false,r.lst,true⟩))) a w:=by
 have hcell:∀(j:Nat) d,(putCells cs c [.und])[j]? = some d->d=.und∨cs[j]? = some d:=by
  intro j d hj
  by_cases hjc:j=c
  ·subst hjc
   rw[fL hle]at hj
   cases hj
   exact .inl rfl
  ·rw[ir hle hjc]at hj
   exact .inr hj
 have hnx:∀(j:Nat) n' xs',(putCells cs c [.und])[j]? = some (.nx n' xs')->∃n xs k,cs[j]? = some (.nx n xs)∧xs'=xs.take k:=by
  intro j n' xs' hj
  rcases hcell j _ hj with h|h
  ·cases h
  ·exact⟨n',xs',xs'.length,h,by simp⟩
 refine hI.Aj hx hm hc hz hp1 (lk hle) rfl rfl rfl (aeO _) (fun _ _ _=>rfl) hnx (fun g hg =>?_)
 obtain⟨arr,k1,k2,k3⟩:=hI.HZ hx hm hc hp1 hg
 refine⟨rfl,arr,k1,k2,fun j d hj=>⟨fun hd =>?_,fun n' xs' he =>?_⟩⟩
 ·rcases hcell j d hj with h|h
  ·subst h;cases hd
  ·exact (k3 j d h hd).keep fun b q1 q2=>⟨q1,Ez (QU hx hm hc hz hp1 (lk hle) hnx) q2,rfl⟩
 ·subst he
  rcases hcell j _ hj with h|h
  ·cases h
  ·obtain⟨u,q1,q2⟩:=hI.Eg hx hm hc hp1 hg h
   have hlt:=(afh.1 h).1
   rw[bu k1 (by omega)]at q1
   cases q1
   exact q2
theorem L8 (hT:kq P T) (hI:Inv N M L w0 blk V t (EH h) a w) {ty y c ty' s nv nv' y1 n:Nat} {p x:Operand} {τ:Ty} {r q:Row} {cs:List D} {u':Value} {g:Nat×Nat} (ho:o.op=.store ty p x) (hτ:T ty=some τ) (c1:τ.size=1)
  (hx:h y=some r) (hm:r.mp=true) (hc:r.cells=[.nr ty' s nv cs]) (hz:r.fz=false) (hp1:y<PK) (hg:blk y=some g) (hpv:a.eval p=.pointer (some ⟨g.1,g.2+c,none⟩)) (hle:c<cs.length)
  (hy1:h y1=some q) (hyp:y1<PK) (hqf:q.fz=false) (hql:q.lst=true) (hqm:q.mp=false) (hqt:q.ty=ty') (hu:(a.eval x).cells = #[u']) (hone:u'.oneCell'=true) (hrel:F7 w blk y1 s n u') (hV:∀o,¬V (NK y o) nv') :
  eK P o a w (qE N M L w0 V t h a e o.dst ⟨.und,[(y1,none),(y,some ⟨r.v,r.ty,[.nr ty' s nv' (putCells cs c [.nx n q.cells])],false,r.lst,true⟩)]⟩):=by
 have hpk:=cO
 have hbig:=hI.big
 have hyy:y1≠y:=by
  rintro rfl
  rw[hy1]at hx
  cases hx
  rw[hqm]at hm
  cases hm
 have hK:∀o,NK y o≠y∧NK y o≠y1∧2*PK<=NK y o:=fun o=>by have:=gq y o;omega
 obtain⟨arr,k1,k2,k3⟩:=hI.HZ hx hm hc hp1 hg
 have hrun:=run_storeCells_at P g.1 (g.2+c) r.ty [u'] 0 arr w k1 (by simp;omega) (fun v hv=>by
  simp only[afb]at hv
  subst hv
  exact hone)
 rw[afn]at hrun
 have hsz:(arr.toList.take (g.2+c)++[u']++arr.toList.drop (g.2+c+[u'].length)).toArray.size=arr.size:=by simp;omega
 have hget:∀j,j<cs.length->(arr.toList.take (g.2+c)++[u']++arr.toList.drop (g.2+c+[u'].length)).toArray.getD (g.2+j) undef=if j=c then u' else arr.getD (g.2+j) undef:=by
  intro j hj
  rw[uX arr [u'] (g.2+c) (g.2+j) (by simp;omega)]
  by_cases hjc:j=c
  ·subst hjc
   rw[if_neg (by omega),if_pos (by simp),if_pos rfl]
   simp
  ·rw[if_neg hjc]
   by_cases hlt:j<c
   ·rw[if_pos (by omega)]
   ·rw[if_neg (by omega),if_neg (by simp;omega)]
 generalize hnv:(arr.toList.take (g.2+c)++[u']++arr.toList.drop (g.2+c+[u'].length)).toArray=arr' at hrun hsz hget
 obtain⟨hnew,hhs,hheap⟩:=Kp (g:=g) (arr':=arr') k1
 have hA:=hI.aei hx hm hc hz hp1 hle
 have hB:=hA.acZ (fun k=>∃o,k=NK y o) nv' (fun k hk=>by
  obtain⟨o,rfl⟩:=hk
  exact⟨by have:=hK o;omega,by have:=hK o;omega,hV o⟩) (h':=EH (b8 h y (some ⟨r.v,r.ty,[.nr ty' s nv' (putCells cs c [.und])],false,r.lst,true⟩))) (fun k hk=>by
  obtain⟨o,rfl⟩:=hk
  rw[e9 (ay _ _ _) rfl rfl hp1,e9 (ay _ _ _) rfl rfl hp1]
  cases (putCells cs c [D.und])[o]? with
  | none=>rfl
  | some d=>cases d<;>rfl) (fun k hk=>by
  by_cases hky:rt k=y
  ·rcases xD hky with rfl|h
   ·rw[gp (ay _ _ _) rfl rfl hp1,gp (ay _ _ _) rfl rfl hp1]
   ·exact absurd h hk
  ·exact eU (by rw[aC _ _ hky,aC _ _ hky]))
 generalize hh2:b8 h y (some (⟨r.v,r.ty,[.nr ty' s nv' (putCells cs c [.und])],false,r.lst,true⟩:Row))=h2 at hB
 have h2y:h2 y=some ⟨r.v,r.ty,[.nr ty' s nv' (putCells cs c [.und])],false,r.lst,true⟩:=by rw[<- hh2,ay]
 have h2ne:∀z,z≠y->h2 z=h z:=fun z hz=>by rw[<- hh2,aC _ _ hz]
 have hq2:EH h2 y1=some q:=by
  rw[tN (by omega),h2ne _ hyy,hy1]
  simp only[Option.map_some,B7,hqm]
  rfl
 have hrow1:=(hB.rows y1 q hq2).2
 have hown1:∀b,Own M (forget (EH h2) (some y1)) blk b->Own M (EH h2) blk b:=fun b hb=>by
  rcases hb with hb|⟨z,r',g',hz,hz2,hz3,hz4⟩
  ·exact .inl hb
  ·simp only[forget]at hz
   by_cases hzx:z=y1
   ·subst hzx;rw[ay]at hz;cases hz
   ·rw[aC _ _ hzx]at hz
    exact .inr ⟨z,r',g',hz,hz2,hz3,hz4⟩
 have hC:=hB.Wb (w':=w) (h1:=forget (EH h2) (some y1)) (old:=some y1) (d:=NK y c) (r0:=⟨nv',ty',q.cells,false,true,false⟩) (go:=blk y1) rfl rfl rfl (aeO _) (fun _ _ _=>rfl) (fun y' hy'=>by cases hy';exact⟨q,hq2,hqf⟩) rfl (by have:=hK c;omega) (by have:=hK c;omega) (hV c)
  (fun y' r' j s' n' hy' hm' hc'=>by
   simp only[forget]at hy'
   by_cases hyy':y'=y1
   ·subst hyy';rw[ay]at hy';cases hy'
   rw[aC _ _ hyy']at hy'
   have hrow:=(hB.rows y' r' hy').2
   cases hb:blk y' with
   | none =>
    rw[hb]at hrow
    rw[show r'.cells=[] from hrow]at hc'
    cases hc'
   | some g' =>
    obtain⟨⟨q1,q2⟩,_⟩:=hB.pha y' r' g' hy' hm' hb j _ s' n' hc'
    rcases q2 with q2|q2
    ·have:=hK c;omega
    ·obtain⟨rfl,rfl⟩:=xe hp1 q1 q2
     rw[gp h2y rfl rfl hp1]at hy'
     simp only[aeX]at hy'
     subst hy'
     simp only[ahf,fL hle,Option.map_some,aeX]at hc'
     cases hc') (by
  cases hb:blk y1 with
  | none=>rw[hb]at hrow1;exact hrow1
  | some g' =>
   obtain⟨arr2,m1,m2,m3⟩:=hB.D0 hq2 hb hqm
   refine⟨.inr ⟨y1,g',rfl,hb,rfl⟩,arr2,by rw[<- hqt];exact m1,m2,fun j d hj=>⟨(m3 j d hj).1,(m3 j d hj).2.keep fun b q1 q2=>⟨q1,?_,rfl⟩⟩⟩
   rintro (hn|rfl)
   ·exact q2 (hown1 b hn)
   ·exact q2 (.inr ⟨y1,q,g',hq2,hqf,hb,rfl⟩)) rfl
 generalize hhC:b8 (forget (EH h2) (some y1)) (NK y c) (some (⟨nv',ty',q.cells,false,true,false⟩:Row))=hc3 at hC
 have hxC:hc3 y=some ⟨r.v,r.ty,(putCells cs c [.und]).mapIdx (qS y s),false,r.lst,true⟩:=by
  rw[<- hhC,aC _ _ (Ne.symm (hK c).1)]
  simp only[forget]
  rw[aC _ _ (Ne.symm hyy)]
  exact gp h2y rfl rfl hp1
 have hgC:b8 blk (NK y c) (blk y1) y=some g:=by rw[aC _ _ (Ne.symm (hK c).1),hg]
 have hlen':(putCells cs c [D.nx n q.cells]).length=cs.length:=lk hle
 have hD:=hC.nR (r0:=⟨r.v,r.ty,(putCells cs c [.nx n q.cells]).mapIdx (qS y s),false,r.lst,true⟩) (w':=w.setRow g.1 arr') hxC rfl rfl rfl rfl rfl (by rw[hhs];exact aeO _) (fun b _ hb=>hheap b (hb g hgC)) (by
  rw[hgC]
  refine⟨by simp[World.shape?,hnew,k1,hsz],?_⟩
  have hri:=hC.rowIs hxC hgC
  unfold dM at hri ⊢
  simp only at hri ⊢
  rcases hri with⟨ks,vs,m1,_⟩|⟨m1,arr2,m2,m3,m4⟩
  ·exfalso
   have:=congrArg List.length m1
   simp only[ahe,lk hle,List.length_singleton]at this
   have h0:c=0:=by omega
   subst h0
   have m1':=congrArg (fun l:List D=>l[0]?) m1
   simp only[ahf,fL hle,Option.map_some,List.getElem?_cons_zero,aeX]at m1'
   cases m1'
  ·rw[k1]at m2
   simp only[aeX,Obj.cells.injEq]at m2
   obtain⟨rfl,-⟩:=m2
   refine .inr ⟨fun d hd =>?_,arr',hnew,by simp only[ahe,hlen'];omega,fun j d hj =>?_⟩
   ·obtain⟨j,hj⟩:=afa hd
    simp only[ahf,aeM]at hj
    obtain⟨d0,hd0,rfl⟩:=hj
    exact nC _ _ _ _
   ·simp only[ahf,aeM]at hj
    obtain⟨d0,hd0,rfl⟩:=hj
    have hjl:j<cs.length:=by
     have:=(afh.1 hd0).1
     omega
    rw[hget j hjl]
    by_cases hjc:j=c
    ·subst hjc
     rw[fL hle]at hd0
     cases hd0
     trivial
    ·rw[if_neg hjc]
     rw[ir hle hjc]at hd0
     have:=m4 j (qS y s j d0) (by rw[ahf,ir hle hjc,hd0];rfl)
     exact this.keep fun b q1 q2=>⟨by rw[hhs];exact q1,q2,hheap b (fun e=>q2 (.inr ⟨y,_,g,hxC,rfl,hgC,e.symm⟩))⟩) (fun h=>by cases h) (fun _ g' hg' j x' s' n' hj=>by
  rw[hgC]at hg'
  cases hg'
  simp only[ahf,aeM]at hj
  obtain⟨d0,hd0,he⟩:=hj
  have hjl:j<cs.length:=by
   have:=(afh.1 hd0).1
   omega
  by_cases hjc:j=c
  ·subst hjc
   rw[fL hle]at hd0
   simp only[aeX]at hd0
   subst hd0
   simp only[qS,D.ph.injEq]at he
   obtain⟨rfl,rfl,rfl⟩:=he
   refine⟨⟨hp1,.inr rfl⟩,u',by rw[bu hnew (by omega),hget j hjl,if_pos rfl],fun r' _ =>?_⟩
   rw[ay]
   exact hrel
  ·rw[ir hle hjc]at hd0
   obtain⟨q1,u,q2,q3⟩:=hC.pha y _ g hxC rfl hgC j x' s' n' (by rw[ahf,ir hle hjc,hd0,<- he];rfl)
   refine⟨q1,u,?_,q3⟩
   rw[bu k1 (by omega)]at q2
   rw[bu hnew (by omega),hget j hjl,if_neg hjc,q2])
 have hfin:b8 hc3 y (some (⟨r.v,r.ty,(putCells cs c [.nx n q.cells]).mapIdx (qS y s),false,r.lst,true⟩:Row))=EH (aH h [(y1,none),(y,some ⟨r.v,r.ty,[.nr ty' s nv' (putCells cs c [.nx n q.cells])],false,r.lst,true⟩)]):=by
  simp only[aH]
  funext k
  by_cases hky:rt k=y
  ·rcases xD hky with rfl|⟨o',rfl⟩
   ·rw[ay,gp (ay _ _ _) rfl rfl hp1]
   ·rw[aC _ _ (hK o').1,e9 (ay _ _ _) rfl rfl hp1,<- hhC]
    by_cases hoc:o'=c
    ·subst hoc
     rw[ay,fL hle]
     rfl
    ·rw[aC _ _ (fun e=>hoc (xe hp1 hp1 e).2)]
     simp only[forget]
     rw[aC _ _ (hK o').2.1,e9 h2y rfl rfl hp1,ir hle hoc,ir hle hoc]
  ·rw[aC _ _ (fun e=>hky (by rw[e,kv (by omega)])),<- hhC,aC _ _ (fun e=>hky (by rw[e,uV hp1]))]
   simp only[forget]
   by_cases hk1:rt k=y1
   ·rcases xD hk1 with rfl|⟨o',rfl⟩
    ·rw[ay,tN (by omega),aC _ _ hyy,ay]
     rfl
    ·rw[aC _ _ (by have:=gq y1 o';omega),wG hyp,wG hyp,h2ne _ hyy,hy1,aC _ _ hyy,ay]
     simp only[Option.bind_some,Option.bind_none,rl,hqm]
     rfl
   ·rw[aC _ _ (fun e=>hk1 (by rw[e,kv (by omega)]))]
    exact eU (by rw[h2ne _ hky,aC _ _ hky,aC _ _ hk1])
 refine .inr (.inl ⟨w.setRow g.1 arr',?_,b8 blk (NK y c) (blk y1),?_,trivial⟩)
 ·simp[execOp,ho,Instr.storeAt,Instr.sureAddr,hpv,storeVar,run_sizeOf (hT ty τ hτ),c1,hu,hrun]
 ·show Inv _ _ _ _ _ _ _ (EH (aH h _)) _ _
  rw[<- hfin]
  exact hD.weaken fun _ _ h =>.inl h
def abo (V:Nat->Nat->Prop) (h:Nat->Option Row) (e:Nat):Prop:=∀x r ty s nv cs nv',h x=some r->r.mp=true->r.cells=[.nr ty s nv cs]->x<PK->pU nv e=some nv'->∀o,¬V (NK x o) nv'
theorem abV {M':Nat->Prop} {d:D} {c':List D} {u:Value} (hc:plV d=some c') (hd:c'.all gr=true) (hr:RT w M' h blk V d u):u.cells.toList.length=c'.length∧∀(j:Nat) x,c'[j]? = some x->gr x=true∧RP w M' (canon x) (u.cells.toList.getD j undef):=by
 have hdx:∀x∈c',gr x=true:=aeZ.1 hd
 have one:∀(d0:D),c'=[d0]->RP w M' d0 u->u.cells.toList.length=c'.length∧∀(j:Nat) x,c'[j]? = some x->gr x=true∧RP w M' (canon x) (u.cells.toList.getD j undef):=by
  intro d0 he hr0
  subst he
  have hdc:=hdx d0 (by simp)
  have hu:=hr0.cells (ij hdc).1
  rw[hu]
  refine⟨rfl,fun j x hj =>?_⟩
  cases j with
  | zero=>simp only[List.getElem?_cons_zero,aeX]at hj;subst hj;exact⟨hdc,hr0.canon⟩
  | succ j=>simp at hj
 cases d with
 | agg xs =>
  simp only[plV,aeX]at hc
  subst hc
  have hr':RP w M' (.agg xs) u:=hr
  cases hr' with
  | agg xs us h1 h2 h3 =>
   have hcs:(Value.agg us.toArray).cells.toList=us:=by simp[Value.cells]
   rw[hcs]
   exact⟨h1,fun j x hj=>⟨hdx x (afg hj),(h2 j x hj).canon⟩⟩
 | int k n=>simp only[plV,aeX]at hc;exact one _ hc.symm hr
 | bool b=>simp only[plV,aeX]at hc;exact one _ hc.symm hr
 | str s=>simp only[plV,aeX]at hc;exact one _ hc.symm hr
 | sl a b n xs=>simp only[plV,aeX]at hc;exact one _ hc.symm hr
 | _=>cases hc
theorem WZ (hT:kq P T) (hI:Inv N M L w0 blk V t (EH h) a w) (hVn:abo V h e) {ty:Nat} {p x:Operand} {τ:Ty} {E:bM} (ho:o.op=.store ty p x) (hτ:T ty=some τ) (hE:l4 τ e h (ev t p) (ev t x)=some E):eK P o a w (qE N M L w0 V t h a e o.dst E):=by
 have hp:=hI.ev p
 have hq:=hI.ev x
 generalize ev t p=pd at *
 generalize ev t x=d at *
 unfold l4 at hE
 split at hE<;>try (cases hE;done)
 rename_i y v c
 split at hE<;>try (cases hE;done)
 rename_i r ty' s nv cs hl
 obtain⟨hx,hv,hz,hm,hp1,hc⟩:=mW hl
 have hEx:=gp hx hm hc hp1
 obtain⟨g,hg,hpv⟩:=hp.2 _ hEx hv
 split at hE<;>try (cases hE;done)
 rename_i hcond
 obtain⟨hle,hpos⟩:=hcond
 have plain:Ap τ y r ty' s nv cs c (plV d)=some E->eK P o a w (qE N M L w0 V t h a e o.dst E):=by
  intro hE
  unfold Ap at hE
  split at hE<;>try (cases hE;done)
  rename_i c' hpl
  split at hE<;>try (cases hE;done)
  rename_i hcond
  obtain⟨d1,d2⟩:=hcond
  simp only[aeX]at hE
  subst hE
  obtain⟨u1,u2⟩:=abV hpl d2 hq
  have hml:(c'.map canon).length=τ.size:=by rw[afi];exact d1
  have hle':c+(c'.map canon).length<=cs.length:=by omega
  refine Da hT hI ho hτ hx hm hc hz hp1 hg hpv rfl (u1.trans d1) hle (fun u hu =>?_) (jb hle') (fun j n' xs' hj =>?_) (fun j hj =>?_) (fun j d0 hj hd0 =>?_)
  ·obtain⟨j,hj⟩:=afa hu
   have hjl:=(afh.1 hj).1
   obtain⟨q1,q2⟩:=u2 j _ (ae1 (by omega))
   have e1:(a.eval x).cells.toList.getD j undef=u:=by simp only[afr,hj,Option.getD_some]
   rw[e1]at q2
   exact q2.vV (by rw[mr];exact (ij q1).1)
  ·rw[lD hle']at hj
   split at hj
   ·exact⟨n',xs',xs'.length,hj,by simp⟩
   ·split at hj
    ·rw[aeL,aeM]at hj
     obtain⟨x0,h1,h2⟩:=hj
     have:=(u2 _ x0 h1).1
     cases x0<;>first|(cases h2;done)|(cases this;done)
    ·exact⟨n',xs',xs'.length,hj,by simp⟩
  ·rw[lD hle']
   by_cases h1:j<c
   ·rw[if_pos h1]
   ·rw[if_neg h1,if_neg (by omega)]
  ·rw[lD hle',if_neg (by omega),if_pos (by omega),af3,aeL,aeM]at hd0
   obtain⟨x0,h1,rfl⟩:=hd0
   obtain⟨q1,q2⟩:=u2 j x0 h1
   refine⟨fun _=>q2,fun n' xs' he =>?_⟩
   cases x0<;>first|(cases he;done)|(cases q1;done)
 unfold wD at hE
 split at hE
 ·rename_i z vz s' oz n
  split at hE<;>try (cases hE;done)
  rename_i hcond
  obtain⟨c1,rfl,rfl⟩:=hcond
  have hsl:∀ {k:Nat} {q:Row},EH h z=some q->q.v=vz->F7 w blk z s' n (a.eval x):=by
   intro k q hz1 hz2
   rcases hq.2 q hz1 hz2 with⟨g',o',c',N',t',k0,k1,k2,k3,k4,k5⟩|⟨k0,k1,A,k2⟩
   ·obtain⟨k6,k7⟩:=k2 (.inr rfl)
    rw[afn]at k6
    subst k6
    exact .inl ⟨g',c',N',t',k0,k1,k7,k3,k4,k5⟩
   ·exact .inr ⟨k0,k1,A,k2⟩
  have hsc:∀ {B:F7 w blk z s' n (a.eval x)},(a.eval x).cells = #[a.eval x]∧(a.eval x).oneCell'=true:=by
   intro B
   rcases B with⟨g',c',N',t',k0,k1,_⟩|⟨k0,k1,A,k2⟩
   ·rw[k1];exact⟨rfl,rfl⟩
   ·rw[k2];exact⟨rfl,rfl⟩
  split at hE
  ·rename_i hzk
   subst hzk
   split at hE<;>try (cases hE;done)
   rename_i hvz
   subst hvz
   rw[ahd]at hE
   unfold An at hE
   split at hE<;>try (cases hE;done)
   rename_i n0 xs hn
   split at hE<;>try (cases hE;done)
   rename_i hfit
   simp only[aeX]at hE
   subst hE
   have hNx:EH h (NK y c)=some ⟨vz,ty',xs,r.fz,true,false⟩:=by rw[e9 hx hm hc hp1,hn];rfl
   have hH:=hsl (k:=0) hNx rfl
   obtain⟨hcl,hone⟩:=hsc (B:=hH)
   have hlt:=(afh.1 hn).1
   refine Da hT hI ho hτ hx hm hc hz hp1 hg hpv (us:=[a.eval x]) (by rw[hcl]) (by simpa using c1.symm) hle (fun u hu=>by simp only[afb]at hu;subst hu;exact hone) (lk hlt) (fun j n' xs' hj =>?_) (fun j hj=>ir hlt (by omega)) (fun j d0 hj hd0 =>?_)
   ·by_cases hjc:j=c
    ·subst hjc
     rw[fL hlt]at hj
     simp only[aeX,D.nx.injEq]at hj
     obtain⟨rfl,rfl⟩:=hj
     exact⟨n0,xs,_,hn,rfl⟩
    ·rw[ir hlt hjc]at hj
     exact⟨n',xs',xs'.length,hj,by simp⟩
   ·obtain rfl:j=0:=by omega
    rw[afn,fL hlt]at hd0
    simp only[aeX]at hd0
    subst hd0
    refine⟨fun hd=>(by cases hd),fun n' xs' he =>?_⟩
    simp only[D.nx.injEq]at he
    obtain⟨rfl,rfl⟩:=he
    exact hH
  ·split at hE<;>try (cases hE;done)
   rename_i hzp
   split at hE<;>try (cases hE;done)
   rename_i q hlq
   split at hE<;>try (cases hE;done)
   rename_i hcq
   obtain⟨q1,q2,q3,q4⟩:=hcq
   obtain⟨hq1,hq2⟩:=bS hlq
   have hqm:=gn hlq
   unfold Ao at hE
   split at hE<;>try (cases hE;done)
   rename_i nv' hb
   simp only[aeX]at hE
   subst hE
   have hEq:EH h z=some q:=by
    rw[tN (by omega),hq1]
    simp only[Option.map_some,B7,hqm]
    rfl
   have hH:=hsl (k:=0) hEq hq2
   obtain⟨hcl,hone⟩:=hsc (B:=hH)
   exact L8 hT hI ho hτ c1 hx hm hc hz hp1 hg hpv (by omega) hq1 hzp q1 q2 hqm q3 hcl hone hH (hVn y r ty' s' nv cs nv' hx hm hc hp1 hb)
 ·exact plain hE
end
def abS:Option D->Bool
 | some (.sl true true 0 [])=>true
 | _=>false
def u4 (φ:Ty) (f:Nat):List D:=putCells ((φ.zero.map n9).map canon) f [.nx 0 []]
def lN (T:Nat->Option Ty) (τ:Ty) (e d ty' s f:Nat) (l c:D):Option bM :=
 match τ.ds with
 | .slice el =>
  match T el,nO l,nO c with
  | some φ,some l,some c =>
   if l<=c∧c<=maxLen∧c*φ.bytes<=140737488355328∧0<φ.size∧(φ.zero.map n9).all gr=true∧φ.zero.length=φ.size∧d<PK∧abS ((φ.zero.map n9).drop f).head? = true then
    some ⟨.buf d e φ.size 0 l,[(d,some ⟨e,el,[.nr ty' s (4*e+2) (m8 l (u4 φ f))],false,true,true⟩)]⟩
   else none
  | _,_,_=>none
 | _=>none
def ju (T:Nat->Option Ty) (Γ:Env) (e:Nat) (o:Oper) (vs:Operand->D):Option bM :=
 match o.op with
 | .makeSlice ty l c =>
  match o.dst with
  | some d =>
   match Γ.nst d with
   | some (ty',s,f)=>match T ty with|some τ=>lN T τ e d ty' s f (vs l) (vs c)|none=>none
   | none=>none
  | none=>none
 | _=>none
section
variable {P:Program} {T:Nat->Option Ty} {N:Nat} {M:Nat->Prop} {L:ky} {w0:World} {blk:Nat->Option (Nat×Nat)} {V:Nat->Nat->Prop} {t:Nat->D} {h:Nat->Option Row} {a:Act} {w:World} {e:Nat} {o:Oper} {Γ:Env}
theorem Inv.addEmpty (hI:Inv N M L w0 blk V t h a w) (S:Nat->Prop) (ty nv:Nat) (hS:∀k,S k->N<=k∧k≠0∧¬V k nv∧h k=none) {h':Nat->Option Row} {blk':Nat->Option (Nat×Nat)} (he:∀k,S k->h' k=some ⟨nv,ty,[],false,true,false⟩∧blk' k=none) (hne:∀k,¬S k->h' k=h k∧blk' k=blk k)
  (hpa:∀y r g,h y=some r->r.mp=true->blk y=some g->∀j x s n:Nat,r.cells[j]? = some (D.ph x s n)->S x->∃u,w.cell? ⟨g.1,g.2+j,none⟩=some u∧n=0∧∃A,u=.slice A 0 0):Inv N M L w0 blk' V t h' a w:=by
 have hf:∀x r',h' x=some r'->(S x∧r'=⟨nv,ty,[],false,true,false⟩∧blk' x=none)∨(¬S x∧h x=some r'∧blk' x=blk x):=by
  intro x r' hx
  by_cases hs:S x
  ·rw[(he x hs).1]at hx
   exact .inl ⟨hs,by simpa using hx.symm,(he x hs).2⟩
  ·rw[(hne x hs).1]at hx
   exact .inr ⟨hs,hx,(hne x hs).2⟩
 have ho:∀b,¬Own M h blk b->¬Own M h' blk' b:=by
  intro b hb hb'
  rcases hb' with hb'|⟨x,r',g,hx,hz,hg,e⟩
  ·exact hb (.inl hb')
  ·rcases hf x r' hx with⟨_,_,k3⟩|⟨_,k2,k3⟩
   ·rw[k3]at hg;cases hg
   ·exact hb (.inr ⟨x,r',g,k2,hz,k3 ▸ hg,e⟩)
 have hkp:F6 w w (Own M h blk) (Own M h' blk') h h' blk blk' V V:=⟨fun b h1 h2=>⟨h1,ho b h2,rfl⟩,fun _ _ h=>h,fun x v hv r' h1 h2=>by
  rcases hf x r' h1 with⟨k1,rfl,_⟩|⟨_,k2,k3⟩
  ·simp only at h2
   subst h2
   exact absurd hv (hS x k1).2.2.1
  ·exact⟨⟨r',k2,h2⟩,k3,fun _ _=>rfl⟩⟩
 exact {
  tab:=hI.tab.keep fun b h1 h2=>⟨h1,ho b h2,rfl⟩
  below:=hI.below
  mlt:=hI.mlt
  lent:=hI.lent
  pin:=fun go hg=>⟨(hI.pin go hg).1,fun r' hr hv=>by
   rcases hf 0 r' hr with⟨k1,_⟩|⟨_,k2,k3⟩
   ·exact absurd rfl (hS 0 k1).2.1
   ·rw[k3];exact (hI.pin go hg).2 r' k2 hv⟩
  defers:=hI.defers
  tsz:=hI.tsz
  slots:=fun i=>(hI.slots i).mono hkp
  rows:=fun x r' hx=>by
   rcases hf x r' hx with⟨k1,rfl,k3⟩|⟨_,k2,k3⟩
   ·rw[k3]
    exact⟨fun hn=>by have:=(hS x k1).1;omega,rfl⟩
   ·obtain⟨h1,h2⟩:=hI.rows x r' k2
    rw[k3]
    refine⟨h1,?_⟩
    cases hb:blk x with
    | none=>rw[hb]at h2;exact h2
    | some g =>
     rw[hb]at h2
     exact⟨h2.1,h2.2.keep rfl rfl rfl rfl fun b q1 q2=>⟨q1,ho b q2,rfl⟩⟩
  inj:=fun x y r s g g' hx hy hg hg' e=>by
   rcases hf x r hx with⟨_,_,k3⟩|⟨_,k2,k3⟩
   ·rw[k3]at hg;cases hg
   rcases hf y s hy with⟨_,_,q3⟩|⟨_,q2,q3⟩
   ·rw[q3]at hg';cases hg'
   exact hI.inj x y r s g g' k2 q2 (k3 ▸ hg) (q3 ▸ hg') e
  big:=hI.big
  pha:=fun y r' g hy hm hg j x s n hc=>by
   rcases hf y r' hy with⟨_,rfl,k3⟩|⟨_,k2,k3⟩
   ·rw[k3]at hg;cases hg
   rw[k3]at hg
   obtain⟨h0,u,q1,q2⟩:=hI.pha y r' g k2 hm hg j x s n hc
   refine⟨h0,u,q1,?_⟩
   by_cases hs:S x
   ·obtain⟨u',p1,p2,p3⟩:=hpa y r' g k2 hm hg j x s n hc hs
    rw[q1]at p1
    cases p1
    exact fun r'' _ =>.inr ⟨(he x hs).2,p2,p3⟩
   ·exact fun r'' q3=>by
     rw[(hne x hs).2]
     exact q2 r'' ((hne x hs).1 ▸ q3)
  ali:=fun y r' g hy hz hls hg j c d' hj hd'=>by
   rcases hf y r' hy with⟨_,rfl,k3⟩|⟨_,k2,k3⟩
   ·rw[k3]at hg;cases hg
   rw[k3]at hg
   obtain⟨u,q1,q2⟩:=hI.ali y r' g k2 hz hls hg j c d' hj hd'
   exact⟨u,q1,q2.mono hkp⟩ }
theorem SK (d:Nat) (hd:d<PK):Ch (EH h) (EH (b8 h d none)):=by
 intro k r' hk
 by_cases hkd:rt k=d
 ·rcases xD hkd with rfl|⟨o,rfl⟩
  ·rw[tN (by have:=cO;omega),ay]at hk;cases hk
  ·rw[wG hd,ay]at hk;cases hk
 ·exact⟨r',by rw[<- hk];exact eU (aC _ _ hkd).symm,.refl _⟩
theorem ZW {v:Value} (h:n9 v=.sl true true 0 []):v=.slice none 0 0:=by
 unfold n9 at h
 split at h<;>first|rfl|cases h
open Classical in
theorem WX (hT:kq P T) (hI:Inv N M L w0 blk V t (EH h) a w) {ty d ty' s f:Nat} {l c:Operand} {τ:Ty} {E:bM} (ho:o.op=.makeSlice ty l c) (hd:o.dst=some d) (hV:kp N V d e) (hV':∀o,¬V (NK d o) (4*e+2)) (hτ:T ty=some τ)
  (hE:lN T τ e d ty' s f (ev t l) (ev t c)=some E):eK P o a w (qE N M L w0 V t h a e o.dst E):=by
 have hpl:=hI.ev l
 have hpc:=hI.ev c
 have hbig:=hI.big
 have hpk:=cO
 obtain⟨dd,hdd,hc⟩:=under hT hτ
 unfold lN at hE
 split at hE<;>try (cases hE;done)
 rename_i el hds
 rw[hds]at hc
 have:=fi hc
 subst this
 split at hE<;>try (cases hE;done)
 rename_i φ n k hφ hn hk
 split at hE<;>try (cases hE;done)
 rename_i hcond
 obtain⟨c1,c2,c3,c4,c5,c6,hdp,c8⟩:=hcond
 simp only[aeX]at hE
 subst hE
 obtain⟨q1,hl⟩:=vU hn hpl
 obtain⟨q2,hcv⟩:=vU hk hpc
 obtain⟨d',i,z,g1,g2,g3,g4,g5,g6,g7⟩:=(hT el φ hφ).get
 have hb:(i.bytes:Int)*(k:Int)<=281474976710656:=by
  have:((i.bytes*k:Nat):Int)<=281474976710656:=by
   rw[g5,afK];omega
  rwa [afL]at this
 have hk63:(k:Int)<=9223372036854775807:=by
  simp only[maxLen]at c2
  omega
 have hrun:=run_make (P:=P) w ty el i z hdd g3 g6 q1 q2 n k (by omega) (by omega) hb hk63
 simp only[Int.toNat_natCast]at hrun
 have hzl:(φ.zero.map n9).length=φ.size:=by rw[afi,c6]
 have hf:f<φ.size:=by
  rw[ahd]at c8
  rcases afz f φ.size with hlt|hge
  ·exact hlt
  ·rw[agk (by omega)]at c8;cases c8
 have hzf:(φ.zero.map n9)[f]? = some (.sl true true 0 []):=by
  rw[ahd]at c8
  unfold abS at c8
  split at c8
  ·assumption
  ·cases c8
 have hzn:(u4 φ f).length=φ.size:=by
  unfold u4
  rw[lk (by simp;omega)]
  simp[c6]
 have hzat:∀(m:Nat) (x:D),(u4 φ f)[m]? = some x->(m=f∧x=.nx 0 [])∨(m≠f∧∃y,(φ.zero.map n9)[m]? = some y∧x=canon y):=by
  intro m x hm
  unfold u4 at hm
  by_cases hmf:m=f
  ·subst hmf
   rw[fL (by simp;omega)]at hm
   exact .inl ⟨rfl,by simpa using hm.symm⟩
  ·rw[ir (by simp;omega) hmf,aeL,aeM]at hm
   obtain⟨y,h1,h2⟩:=hm
   exact .inr ⟨hmf,y,h1,h2.symm⟩
 generalize hvs:madeCells z.cells (k*i.size)=vs at hrun
 have hsz:vs.size=k*φ.size:=by rw[<- hvs];simp[madeCells,g4]
 have hval:∀j,j<k*φ.size->vs.getD j undef=φ.zero.toArray.getD (j % φ.size) undef:=by
  intro j hj
  rw[<- hvs,g7,g4,<- c6]
  have:=u5 φ.zero k j (by rw[c6];exact hj)
  simpa [madeCells,List.getD] using this
 have hat:∀(j:Nat) (x:D),(m8 n (u4 φ f))[j]? = some x->j<n*φ.size∧(u4 φ f)[j % φ.size]? = some x:=by
  intro j x hj
  have:=B4 _ _ _ _ hj
  rwa [hzn]at this
 have hnk:n*φ.size<=k*φ.size:=afA _ c1
 have hdat:∀(M':Nat->Prop) (w':World) (j:Nat) (x:D),(m8 n (u4 φ f))[j]? = some x->gr x=true->RP w' M' x (vs.getD j undef):=by
  intro M' w' j x hj hdx
  obtain⟨r1,r2⟩:=hat j x hj
  rw[hval j (by omega)]
  rcases hzat _ x r2 with⟨_,rfl⟩|⟨_,y,h1,rfl⟩
  ·cases hdx
  ·exact (rA (w:=w') (M:=M') φ.zero (aeZ.2 fun y hy=>(ij (aeZ.1 c5 y hy)).1) _ y h1).2.canon
 have hnil:∀(j:Nat) (n':Nat) (xs:List D),(m8 n (u4 φ f))[j]? = some (.nx n' xs)->n'=0∧xs=[]∧vs.getD j undef=.slice none 0 0:=by
  intro j n' xs hj
  obtain⟨r1,r2⟩:=hat j _ hj
  rcases hzat _ _ r2 with⟨hm,he⟩|⟨_,y,h1,he⟩
  ·simp only[D.nx.injEq]at he
   refine⟨he.1,he.2,?_⟩
   rw[hval j (by omega),hm]
   rw[aeL,aeM]at hzf
   obtain⟨v,v1,v2⟩:=hzf
   simp only[aeT,List.getElem?_toArray,v1,Option.getD_some]
   exact ZW v2
  ·have:=aeZ.1 c5 y (afg h1)
   cases y<;>first|(cases he;done)|(cases this;done)
 generalize hcs:m8 n (u4 φ f)=cs at hat hdat hnil
 have hcl:cs.length=n*φ.size:=by rw[<- hcs,qn,hzn]
 have hA:=hI.le (SK (h:=h) d hdp)
 have hold:∀b,b<w.heap.size->(w.alloc (.cells vs el)).heap[b]? = w.heap[b]?:=fun b hb=>Below.heap_alloc w _ b hb
 have hbw:=(Below.refl w.heap.size w).alloc (aeO _) (.cells vs el)
 have hnew:=heap_alloc_new w (.cells vs el)
 have hEn:∀o,EH (b8 h d none) (NK d o)=none:=fun o=>by rw[wG hdp,ay];rfl
 have hKd:∀o,NK d o≠d:=fun o=>by have:=gq d o;omega
 have hB:=hA.PL (w':=w.alloc (.cells vs el)) (h1:=EH (b8 h d none)) (old:=none) (d:=d) (e:=e) (r0:=⟨e,el,cs.mapIdx (qS d s),false,true,true⟩) (go:=some (w.heap.size,0)) hbw.os hbw.tape hbw.output hbw.size (fun k hk _=>hold k hk) (fun y hy=>by cases hy) rfl hV
  ⟨.inl (aeO _),.inr ⟨fun x hx=>by
   obtain⟨j,hj⟩:=afa hx
   simp only[ahf,aeM]at hj
   obtain⟨d0,hd0,rfl⟩:=hj
   exact nC _ _ _ _,vs,hnew,by simp only[ahe];omega,fun j x hj=>by
   simp only[ahf,aeM]at hj
   obtain⟨d0,hd0,rfl⟩:=hj
   rw[afB]
   by_cases hdd:gr d0=true
   ·rw[mC hdd]
    exact (ij hdd).2.2.2 (hdat _ _ j d0 hd0 hdd)
   ·cases d0<;>first|trivial|exact absurd rfl hdd⟩⟩ rfl rfl (fun _ g hg j x s' n' hj=>by
   cases hg
   simp only[ahf,aeM]at hj
   obtain⟨d0,hd0,he⟩:=hj
   obtain⟨xs,rfl,rfl,rfl⟩:=xE he
   have hlt:=(afh.1 hd0).1
   refine⟨⟨hdp,.inr rfl⟩,_,bu hnew (by omega),fun r hr =>?_⟩
   rw[aC _ _ (hKd j),hEn]at hr
   cases hr)
 obtain⟨S,hS⟩:∃S:Nat->Prop,∀k,S k↔∃o xs,k=NK d o∧cs[o]? = some (.nx 0 xs):=⟨_,fun _=>Iff.rfl⟩
 have hC:=hB.addEmpty S ty' (4*e+2) (h':=EH (b8 h d (some ⟨e,el,[.nr ty' s (4*e+2) cs],false,true,true⟩))) (blk':=fun k=>if S k then none else b8 blk d (some (w.heap.size,0)) k) (fun k hk=>by
   obtain⟨o',xs,rfl,ho'⟩:=(hS k).1 hk
   have:=gq d o'
   refine⟨by omega,by omega,?_,by rw[aC _ _ (hKd o'),hEn]⟩
   rintro (hv|⟨he,_⟩)
   ·exact hV' o' hv
   ·exact hKd o' he) (fun k hk=>by
   refine⟨?_,by rw[if_pos hk]⟩
   obtain⟨o',xs,rfl,ho'⟩:=(hS k).1 hk
   rw[e9 (ay _ _ _) rfl rfl hdp,ho']
   obtain⟨_,rfl,_⟩:=hnil o' 0 xs ho'
   rfl) (fun k hk=>by
   refine⟨?_,by rw[if_neg hk]⟩
   by_cases hkd:rt k=d
   ·rcases xD hkd with rfl|⟨o',rfl⟩
    ·rw[ay,gp (ay _ _ _) rfl rfl hdp]
    ·rw[aC _ _ (hKd o'),hEn,e9 (ay _ _ _) rfl rfl hdp]
     cases hco:cs[o']? with
     | none=>rfl
     | some d0 =>
      cases d0 with
      | nx n' xs =>
       obtain⟨rfl,_,_⟩:=hnil o' n' xs hco
       exact absurd ((hS _).2 ⟨o',xs,rfl,hco⟩) hk
      | _=>rfl
   ·rw[aC _ _ (fun e=>hkd (by rw[e,kv (by omega)]))]
    exact eU (by rw[aC _ _ hkd,aC _ _ hkd])) (fun y r g hy hm hg j x s' n' hj hs=>by
   obtain⟨o',xs,rfl,ho'⟩:=(hS _).1 hs
   obtain⟨⟨p1,p2⟩,u,p3,_⟩:=hB.pha y r g hy hm hg j _ s' n' hj
   rcases p2 with p2|p2
   ·have:=gq d o';omega
   obtain⟨rfl,rfl⟩:=xe hdp p1 p2
   rw[ay]at hy hg
   cases hy
   cases hg
   simp only[ahf,aeM]at hj
   obtain⟨d0,hd0,he⟩:=hj
   obtain⟨xs',rfl,_,rfl⟩:=xE he
   obtain⟨k1,_,k3⟩:=hnil o' n' xs' hd0
   have hlt:=(afh.1 hd0).1
   refine⟨_,bu hnew (by omega),k1,none,?_⟩
   rw[afB]
   exact k3)
 have hSd:¬S d:=fun hs=>by
  obtain⟨o',_,he,_⟩:=(hS d).1 hs
  exact hKd o' he.symm
 refine aE (v := .slice (some ⟨w.heap.size,0,none⟩) n k) (w':=w.alloc (.cells vs el)) ?_ ⟨fun k=>if S k then none else b8 blk d (some (w.heap.size,0)) k,?_,?_⟩
 ·simp[execOp,ho,hl,hcv,hrun]
 ·refine hC.weaken fun x v hx =>?_
  rcases hx with hx|⟨rfl,rfl⟩
  ·exact .inl hx
  ·exact .inr ⟨hd,rfl⟩
 ·exact rO (g:=(w.heap.size,0)) (.inr ⟨hd,rfl⟩) (by rw[if_neg hSd,ay]) hnew c1 c2 (by rw[hsz];simp)
end
section
variable {P:Program} {T:Nat->Option Ty} {N:Nat} {M:Nat->Prop} {L:ky} {w0:World} {blk:Nat->Option (Nat×Nat)} {V:Nat->Nat->Prop} {t:Nat->D} {h:Nat->Option Row} {a:Act} {w:World} {e:Nat} {o:Oper} {Γ:Env}
theorem Inv.abc (hI:Inv N M L w0 blk V t h a w) (S:Nat->Prop) {w':World} {h':Nat->Option Row} {blk':Nat->Option (Nat×Nat)} {V':Nat->Nat->Prop} (hVV:∀x v,V x v->V' x v)
  (hos:w'.os=w.os) (htape:w'.tape=w.tape) (hout:w'.output=w.output) (hsize:w.heap.size<=w'.heap.size)
  (hblock:∀k,k<w.heap.size->(∀x r g,S x->h x=some r->blk x=some g->k≠g.1)->w'.heap[k]? = w.heap[k]?)
  (hfz:∀x r,S x->h x=some r->r.fz=false)
  (hne:∀x,¬S x->h' x=h x∧blk' x=blk x)
  (hin:∀x r,S x->h' x=some r->r.fz=false∧(x<N->V' x r.v)∧(match blk' x with
   | some g=>(w.heap.size<=g.1∨∃y s g0,S y∧h y=some s∧blk y=some g0∧g.1=g0.1)∧dM w' (Own M h' blk') g r
   | none=>r.cells=[]))
  (hinj:∀x y r s g g',S x->S y->h' x=some r->h' y=some s->blk' x=some g->blk' y=some g'->g.1=g'.1->x=y)
  (hslot:∀x r,S x->V x r.v->h' x=some r->(∃r0,h x=some r0∧r0.v=r.v)∧blk' x=blk x∧∀g,blk x=some g->w'.shape? g.1=w.shape? g.1)
  (hpha:∀y r g,S y->h' y=some r->r.mp=true->blk' y=some g->∀j x s n:Nat,r.cells[j]? = some (D.ph x s n)->PG y j x∧∃u,w'.cell? ⟨g.1,g.2+j,none⟩=some u∧PhR w' h' blk' x s n u)
  (hno:∀y r (j x s n:Nat),¬S y->h y=some r->r.mp=true->r.cells[j]? = some (D.ph x s n)->¬S x) :
  Inv N M L w0 blk' V' t h' a w':=by
 have hother:∀x r g,¬S x->h x=some r->blk x=some g->w'.heap[g.1]? = w.heap[g.1]?:=fun x r g hs hx hg=>hblock _ (hI.lt hx hg) (fun y r' g' hy hy1 hg' e=>hs (by rw[hI.inj x y r r' g g' hx hy1 hg hg' e];exact hy))
 have hkeep:∀b,b<w.heap.size->¬Own M h blk b->w'.heap[b]? = w.heap[b]?:=fun b hb hn=>hblock b hb fun x r g hs hx hg he=>hn (.inr ⟨x,r,g,hx,hfz x r hs hx,hg,he.symm⟩)
 have hold:∀x r g,h' x=some r->blk' x=some g->w.heap.size<=g.1∨∃y s g0,h y=some s∧blk y=some g0∧g.1=g0.1∧(S y↔S x)∧(s.fz=false∨s=r)∧(S x∨y=x):=by
  intro x r g hx hg
  by_cases hs:S x
  ·have:=(hin x r hs hx).2.2
   rw[hg]at this
   rcases this.1 with k|⟨y,s,g0,k1,k2,k3,k4⟩
   ·exact .inl k
   ·exact .inr ⟨y,s,g0,k2,k3,k4,⟨fun _=>hs,fun _=>k1⟩,.inl (hfz y s k1 k2),.inl hs⟩
  ·obtain⟨k1,k2⟩:=hne x hs
   exact .inr ⟨x,r,g,by rw[<- k1];exact hx,by rw[<- k2];exact hg,rfl,Iff.rfl,.inr rfl,.inr rfl⟩
 have hown:∀b,b<w.heap.size->¬Own M h blk b->¬Own M h' blk' b:=by
  intro b hb hn hb'
  rcases hb' with hb'|⟨x,r,g,hx,hz,hg,he⟩
  ·exact hn (.inl hb')
  ·rcases hold x r g hx hg with k|⟨y,s,g0,k1,k2,k3,_,k4,_⟩
   ·omega
   ·exact hn (.inr ⟨y,s,g0,k1,k4.elim id (fun e=>by rw[e];exact hz),k2,by rw[<- k3,he]⟩)
 have hk:∀b,b<w.heap.size->¬Own M h blk b->b<w'.heap.size∧¬Own M h' blk' b∧w'.heap[b]? = w.heap[b]?:=fun b h1 h2=>⟨by omega,hown b h1 h2,hkeep b h1 h2⟩
 have hsl:∀x v,V x v->∀r',h' x=some r'->r'.v=v->(∃r,h x=some r∧r.v=v)∧blk' x=blk x∧∀g,blk x=some g->w'.shape? g.1=w.shape? g.1:=by
  intro x v hv r' hx hr
  by_cases hs:S x
  ·subst hr;exact hslot x r' hs hv hx
  ·obtain⟨k1,k2⟩:=hne x hs
   rw[k1]at hx
   exact⟨⟨r',hx,hr⟩,k2,fun g hg=>cd (hother x r' g hs hx hg)⟩
 have hKp:F6 w w' (Own M h blk) (Own M h' blk') h h' blk blk' V V':=⟨hk,hVV,hsl⟩
 exact {
  tab:=hI.tab.keep hk
  below:=hI.below.trans (L':=fun k=>∃x r g,S x∧h x=some r∧blk x=some g∧k=g.1) ⟨hos,htape,hout,hsize,fun k hk' hn=>hblock k hk' (fun x r g hs hx hg he=>hn ⟨x,r,g,hs,hx,hg,he⟩)⟩ (fun k ⟨x,r,g,hs,hx,hg,he⟩ hlt=>by
   rcases hI.base hx hg with hb|hb
   ·omega
   ·rw[he];exact hb)
  mlt:=hI.mlt
  lent:=hI.lent
  pin:=fun p hp=>⟨hVV _ _ (hI.pin p hp).1,fun r hr hv=>by
   obtain⟨⟨r0,k1,k2⟩,k3,k4⟩:=hsl 0 0 (hI.pin p hp).1 r hr hv
   obtain⟨q1,q2⟩:=(hI.pin p hp).2 r0 k1 k2
   exact⟨k3.trans q1,fun g hg=>(k4 g (q1.trans hg)).trans (q2 g hg)⟩⟩
  defers:=hI.defers
  tsz:=hI.tsz
  slots:=fun i=>(hI.slots i).mono hKp
  rows:=fun x r hx=>by
   by_cases hs:S x
   ·obtain⟨k1,k2,k3⟩:=hin x r hs hx
    refine⟨k2,?_⟩
    cases hg:blk' x with
    | none=>rw[hg]at k3;exact k3
    | some g =>
     rw[hg]at k3
     refine⟨?_,k3.2⟩
     rcases k3.1 with q|⟨y,s,g0,_,q2,q3,q4⟩
     ·exact .inl (aeQ hI.below.size q)
     ·rw[q4];exact hI.base q2 q3
   ·obtain⟨k1,k2⟩:=hne x hs
    rw[k1]at hx
    rw[k2]
    exact⟨fun hn=>hVV _ _ ((hI.rows x r hx).1 hn),(hI.rows x r hx).2.keep (fun g hg=>hother x r g hs hx hg) hk⟩
  inj:=fun x y r s g g' hx hy hg hg' he=>by
   by_cases hsx:S x
   ·by_cases hsy:S y
    ·exact hinj x y r s g g' hsx hsy hx hy hg hg' he
    ·exfalso
     obtain⟨k1,k2⟩:=hne y hsy
     rw[k1]at hy
     rw[k2]at hg'
     rcases hold x r g hx hg with k|⟨z,s0,g0,q1,q2,q3,q4,_⟩
     ·have:=hI.lt hy hg';omega
     ·have:=hI.inj z y s0 s g0 g' q1 hy q2 hg' (q3.symm.trans he)
      subst this
      exact hsy (q4.2 hsx)
   ·obtain⟨k1,k2⟩:=hne x hsx
    rw[k1]at hx
    rw[k2]at hg
    by_cases hsy:S y
    ·exfalso
     rcases hold y s g' hy hg' with k|⟨z,s0,g0,q1,q2,q3,q4,_⟩
     ·have:=hI.lt hx hg;omega
     ·have:=hI.inj z x s0 r g0 g q1 hx q2 hg (q3.symm.trans he.symm)
      subst this
      exact hsx (q4.2 hsy)
    ·obtain⟨k3,k4⟩:=hne y hsy
     rw[k3]at hy
     rw[k4]at hg'
     exact hI.inj x y r s g g' hx hy hg hg' he
  big:=hI.big
  pha:=fun y r g hy hm hg j x s n hc=>by
   by_cases hs:S y
   ·exact hpha y r g hs hy hm hg j x s n hc
   ·obtain⟨k1,k2⟩:=hne y hs
    rw[k1]at hy
    rw[k2]at hg
    obtain⟨h0,u,q1,q2⟩:=hI.pha y r g hy hm hg j x s n hc
    have hsx:=hno y r j x s n hs hy hm hc
    obtain⟨k3,k4⟩:=hne x hsx
    exact⟨h0,u,(aeK (a:=⟨g.1,g.2+j,none⟩) (hother y r g hs hy hg)).trans q1,q2.mono fun r' g1=>by
     rw[k3]at g1
     exact⟨⟨r',g1⟩,k4,fun g' hg'=>cd (hother x r' g' hsx g1 hg')⟩⟩
  ali:=fun y r g hy hz hl hg j c d' hj hd'=>by
   by_cases hs:S y
   ·rw[(hin y r hs hy).1]at hz;cases hz
   ·obtain⟨k1,k2⟩:=hne y hs
    rw[k1]at hy
    rw[k2]at hg
    obtain⟨u,q1,q2⟩:=hI.ali y r g hy hz hl hg j c d' hj hd'
    exact⟨u,(aeK (a:=⟨g.1,g.2+j,none⟩) (hother y r g hs hy hg)).trans q1,q2.mono hKp⟩ }
theorem RR {h:Nat->Option Row} {k:Nat} (hk:h (rt k)=none):EH h k=none:=by
 have:=eU (h:=h) (h':=fun _=>none) (k:=k) hk
 rw[this]
 unfold EH
 split<;>rfl
theorem dL {h:Nat->Option Row} {x k:Nat} {r r':Row} {ty s nv:Nat} {cs:List D} (hx:h x=some r) (hm:r.mp=true) (hc:r.cells=[.nr ty s nv cs]) (hp:x<PK) (hk:rt k=x) (he:EH h k=some r') :
  (k=x∧r'=⟨r.v,r.ty,cs.mapIdx (qS x s),r.fz,r.lst,true⟩)∨∃o n xs,k=NK x o∧cs[o]? = some (.nx n xs)∧r'=⟨nv,ty,xs,r.fz,true,false⟩:=by
 rcases xD hk with rfl|⟨o,rfl⟩
 ·rw[gp hx hm hc hp]at he
  exact .inl ⟨rfl,by simpa using he.symm⟩
 ·rw[e9 hx hm hc hp]at he
  unfold Ed at he
  split at he
  ·rename_i n xs ho
   exact .inr ⟨o,n,xs,rfl,ho,by simpa using he.symm⟩
  ·cases he
theorem y7 {x:Nat} (hp:x<PK):rt x=x:=kv (by have:=cO;omega)
theorem Z7 {r r':Row} {k:Nat} (he:EH (mA r) k=some r'):rt k=0:=by
 by_cases hk:rt k=0
 ·exact hk
 ·rw[RR (by unfold mA;rw[if_neg hk])]at he
  cases he
theorem mN:0<PK:=by rw[cO];decide
theorem iU {k ty t s nv:Nat} {cs:List D} {r':Row} (he:EH (mA (gO ty t s nv cs)) k=some r') :
  (k=0∧r'=⟨0,ty,cs.mapIdx (qS 0 s),false,true,true⟩)∨∃o n xs,k=NK 0 o∧cs[o]? = some (.nx n xs)∧r'=⟨nv,t,xs,false,true,false⟩ :=
 dL (r:=gO ty t s nv cs) rfl rfl rfl mN (Z7 he) he
theorem uU {ty t s nv:Nat} {cs:List D} : EH (mA (gO ty t s nv cs)) 0=some ⟨0,ty,cs.mapIdx (qS 0 s),false,true,true⟩ :=
 gp (r:=gO ty t s nv cs) rfl rfl rfl mN
theorem sO {ty t s nv o n:Nat} {cs xs:List D} (ho:cs[o]? = some (.nx n xs)):EH (mA (gO ty t s nv cs)) (NK 0 o)=some ⟨nv,t,xs,false,true,false⟩:=by
 rw[e9 (r:=gO ty t s nv cs) rfl rfl rfl mN,ho]
 rfl
def UZ (x k:Nat):Nat:=@ite _ (k<2*PK) (ltB k (2*PK)) x (NK x (k / PK-2))
theorem qM (x:Nat):UZ x 0=x:=if_pos (by have:=cO;omega)
theorem oK (x o:Nat):UZ x (NK 0 o)=NK x o:=by
 unfold UZ
 rw[if_neg (by have:=gq 0 o;omega),Cj o mN]
def pW (blk:Nat->Option (Nat×Nat)) (x k:Nat):Option (Nat×Nat):=blk (UZ x k)
def InX (blk:Nat->Option (Nat×Nat)) (h:Nat->Option Row) (x b:Nat):Prop:=∃k r g,rt k=x∧EH h k=some r∧blk k=some g∧g.1=b
theorem Ja {h:Nat->Option Row} {x:Nat} {r:Row} {ty s nv:Nat} {cs:List D} (hx:h x=some r) (hm:r.mp=true) (hc:r.cells=[.nr ty s nv cs]) (hp:x<PK) (b:Nat):vg (pW blk x) (EH (mA (gO r.ty ty s 0 cs))) b↔InX blk h x b:=by
 constructor
 ·rintro⟨k,r',g,h1,h2,h3⟩
  rcases iU h1 with⟨rfl,_⟩|⟨o,n,xs,rfl,ho,_⟩
  ·rw[pW,qM]at h2
   exact⟨x,_,g,y7 hp,gp hx hm hc hp,h2,h3⟩
  ·rw[pW,oK]at h2
   exact⟨NK x o,_,g,uV hp,by rw[e9 hx hm hc hp,ho];rfl,h2,h3⟩
 ·rintro⟨k,r',g,h0,h1,h2,h3⟩
  rcases dL hx hm hc hp h0 h1 with⟨rfl,_⟩|⟨o,n,xs,rfl,ho,_⟩
  ·exact⟨0,_,g,uU,by rw[pW,qM];exact h2,h3⟩
  ·exact⟨NK 0 o,_,g,sO ho,by rw[pW,oK];exact h2,h3⟩
theorem Inv.abM (hI:Inv N M L w0 blk V t (EH h) a w) {x:Nat} {r:Row} {ty s nv:Nat} {cs:List D} (hx:h x=some r) (hm:r.mp=true) (hc:r.cells=[.nr ty s nv cs]) (hz:r.fz=false) (hp:x<PK) {Q:Nat->Prop} (hQ:∀b,Q b->Own M (EH h) blk b) :
  F8 w Q (pW blk x) (EH (mA (gO r.ty ty s 0 cs))) where
 rows k r' hk:=by
  rcases iU hk with⟨rfl,rfl⟩|⟨o,n,xs,rfl,ho,rfl⟩
  ·rw[pW,qM]
   cases hg:blk x with
   | none =>
    have:=(hI.rows x _ (gp hx hm hc hp)).2
    rw[hg]at this
    have h1:cs.mapIdx (qS x s)=[]:=this
    have h2:cs.length=0:=by
     have:=congrArg List.length h1
     simpa using this
    show cs.mapIdx (qS 0 s)=[]
    rw[afW h2]
    rfl
   | some g =>
    obtain⟨arr,k1,k2,k3⟩:=hI.HZ hx hm hc hp hg
    refine .inr ⟨fun d hd =>?_,arr,k1,by simpa using k2,fun j d hj =>?_⟩
    ·obtain⟨j,hj⟩:=afa hd
     simp only[ahf,aeM]at hj
     obtain⟨d0,hd0,rfl⟩:=hj
     exact nC _ _ _ _
    ·simp only[ahf,aeM]at hj
     obtain⟨d0,hd0,rfl⟩:=hj
     by_cases hdd:gr d0=true
     ·rw[mC hdd]
      exact (ij hdd).2.2.2 ((k3 j d0 hd0 hdd).less hQ)
     ·cases d0<;>first|trivial|exact absurd rfl hdd
  ·rw[pW,oK]
   have hq:EH h (NK x o)=some ⟨nv,ty,xs,r.fz,true,false⟩:=by rw[e9 hx hm hc hp,ho];rfl
   have:=(hI.rows _ _ hq).2
   cases hg:blk (NK x o) with
   | none=>rw[hg]at this;exact this
   | some g =>
    rw[hg]at this
    obtain⟨arr,k1,k2,k3⟩:=this.2
    exact⟨arr,k1,k2,fun j d hj=>⟨(k3 j d hj).1,(k3 j d hj).2.less hQ⟩⟩
 inj k l r1 r2 g g' hk hl hg hg' he:=by
  have key:∀ {k:Nat} {r1:Row} {g:Nat×Nat},EH (mA (gO r.ty ty s 0 cs)) k=some r1->pW blk x k=some g->∃r2,EH h (UZ x k)=some r2∧blk (UZ x k)=some g:=by
   intro k r1 g hk hg
   rcases iU hk with⟨rfl,_⟩|⟨o,n,xs,rfl,ho,_⟩
   ·exact⟨_,by rw[qM];exact gp hx hm hc hp,hg⟩
   ·exact⟨_,by rw[oK,e9 hx hm hc hp,ho];rfl,hg⟩
  obtain⟨q1,k1,k2⟩:=key hk hg
  obtain⟨q2,k3,k4⟩:=key hl hg'
  have e1:=hI.inj _ _ _ _ _ _ k1 k3 k2 k4 he
  rcases iU hk with⟨rfl,_⟩|⟨o,n,xs,rfl,ho,_⟩
  ·rcases iU hl with⟨rfl,_⟩|⟨o',n',xs',rfl,ho',_⟩
   ·rfl
   ·rw[qM,oK]at e1
    have:=gq x o';have:=cO;omega
  ·rcases iU hl with⟨rfl,_⟩|⟨o',n',xs',rfl,ho',_⟩
   ·rw[qM,oK]at e1
    have:=gq x o;have:=cO;omega
   ·rw[oK,oK]at e1
    rw[(xe hp hp e1).2]
 pha k r' g hk hm' hg j x' s' n hj:=by
  rcases iU hk with⟨rfl,rfl⟩|⟨o,n,xs,rfl,ho,rfl⟩
  rotate_left
  ·cases hm'
  rw[pW,qM]at hg
  simp only[ahf,aeM]at hj
  obtain⟨d0,hd0,he⟩:=hj
  obtain⟨xs1,rfl,rfl,rfl⟩:=xE he
  obtain⟨u,k1,k2⟩:=hI.Eg hx hm hc hp hg hd0
  refine⟨⟨mN,.inr rfl⟩,u,k1,fun _ _ =>?_⟩
  unfold pW
  rw[oK]
  exact k2
def Fu (x k:Nat):Nat:=if k=x then 0 else NK 0 (k / PK-2)
theorem tW (x:Nat):Fu x x=0:=if_pos rfl
theorem kP {x:Nat} (hp:x<PK) (o:Nat):Fu x (NK x o)=NK 0 o:=by
 unfold Fu
 rw[if_neg (by have:=gq x o;have:=cO;omega),Cj o hp]
def nZ (blk blk1:Nat->Option (Nat×Nat)) (x k:Nat):Option (Nat×Nat):=if rt k=x then blk1 (Fu x k) else blk k
theorem Inv.back (hI:Inv N M L w0 blk V t (EH h) a w) {x:Nat} {r:Row} {ty s nv nv':Nat} {cs cs':List D} {g0:Nat×Nat} (hx:h x=some r) (hm:r.mp=true) (hc:r.cells=[.nr ty s nv cs]) (hz:r.fz=false) (hp:x<PK)
  (hV:∀o,¬V (NK x o) nv') (hg0:blk x=some g0) {w':World} {blk1:Nat->Option (Nat×Nat)} {M':Nat->Prop} {h1:Nat->Option Row} (hh1:h1=EH (mA (gO r.ty ty s 0 cs'))) (hM':∀b,M' b↔Own M (EH h) blk b∧¬InX blk h x b)
  (hb:dp (InX blk h x) w w') (h0:blk1 0=some g0) (hsh:w'.shape? g0.1=w.shape? g0.1) (hnew:∀b,vg blk1 h1 b->w.heap.size<=b∨InX blk h x b) (hR:F8 w' (fun b=>M' b∨vg blk1 h1 b) blk1 h1) :
  Inv N M L w0 (nZ blk blk1 x) V t (EH (b8 h x (some ⟨r.v,r.ty,[.nr ty s nv' cs'],false,r.lst,true⟩))) a w'∧∀b,Own M (EH (b8 h x (some ⟨r.v,r.ty,[.nr ty s nv' cs'],false,r.lst,true⟩))) (nZ blk blk1 x) b->M' b∨vg blk1 h1 b:=by
 generalize hh2:b8 h x (some (⟨r.v,r.ty,[.nr ty s nv' cs'],false,r.lst,true⟩:Row))=h2
 have hx2:h2 x=some ⟨r.v,r.ty,[.nr ty s nv' cs'],false,r.lst,true⟩:=by rw[<- hh2,ay]
 have hne2:∀k,rt k≠x->EH h2 k=EH h k:=fun k hk=>eU (by rw[<- hh2,aC _ _ hk])
 have hbne:∀k,rt k≠x->nZ blk blk1 x k=blk k:=fun k hk=>if_neg hk
 have hbx:nZ blk blk1 x x=blk1 0:=by unfold nZ;rw[if_pos (y7 hp),tW]
 have hbN:∀o,nZ blk blk1 x (NK x o)=blk1 (NK 0 o):=fun o=>by unfold nZ;rw[if_pos (uV hp),kP hp]
 subst hh1
 have hkey:∀k r',rt k=x->EH h2 k=some r'->∃r1,EH (mA (gO r.ty ty s 0 cs')) (Fu x k)=some r1∧nZ blk blk1 x k=blk1 (Fu x k):=by
  intro k r' hk he
  have hq:nZ blk blk1 x k=blk1 (Fu x k):=if_pos hk
  rcases dL hx2 rfl rfl hp hk he with⟨rfl,_⟩|⟨o,n,xs,rfl,ho,_⟩
  ·rw[tW]at hq ⊢;exact⟨_,uU,hq⟩
  ·rw[kP hp]at hq ⊢;exact⟨_,sO ho,hq⟩
 have hown:∀b,Own M (EH h2) (nZ blk blk1 x) b->M' b∨vg blk1 (EH (mA (gO r.ty ty s 0 cs'))) b:=by
  intro b hb'
  rcases hb' with hb'|⟨k,r',g,hk,hz',hg,he⟩
  ·refine .inl ((hM' b).2 ⟨.inl hb',?_⟩)
   rintro⟨k,r',g,_,q1,q2,q3⟩
   exact hI.notM q1 q2 (by rw[q3];exact hb')
  ·by_cases hkx:rt k=x
   ·obtain⟨r1,q1,q2⟩:=hkey k r' hkx hk
    exact .inr ⟨_,r1,g,q1,by rw[<- q2];exact hg,he⟩
   ·rw[hne2 k hkx]at hk
    rw[hbne k hkx]at hg
    refine .inl ((hM' b).2 ⟨.inr ⟨k,r',g,hk,hz',hg,he⟩,?_⟩)
    rintro⟨l,s',g',q0,q1,q2,q3⟩
    have:=hI.inj k l r' s' g g' hk q1 hg q2 (he.trans q3.symm)
    subst this
    exact hkx q0
 refine⟨?_,hown⟩
 have hfzS:∀k r',rt k=x->EH h k=some r'->r'.fz=false:=by
  intro k r' hk he
  rcases dL hx hm hc hp hk he with⟨_,rfl⟩|⟨o,n,xs,_,_,rfl⟩<;>exact hz
 refine hI.abc (fun k=>rt k=x) (fun _ _ h=>h) hb.os hb.tape hb.output hb.size (fun k hk hn=>hb.block k hk ?_) hfzS (fun k hk=>⟨hne2 k hk,hbne k hk⟩) ?_ ?_ ?_ ?_ ?_
 ·rintro⟨l,r',g,q0,q1,q2,q3⟩
  exact hn l r' g q0 q1 q2 q3.symm
 ·intro k r' hk he
  have hplace:∀g,nZ blk blk1 x k=some g->w.heap.size<=g.1∨∃y s g0,rt y=x∧EH h y=some s∧blk y=some g0∧g.1=g0.1:=by
   intro g hg
   obtain⟨r1,q1,q2⟩:=hkey k r' hk he
   rcases hnew g.1 ⟨_,r1,g,q1,by rw[<- q2];exact hg,rfl⟩ with q|⟨y,s',g',p0,p1,p2,p3⟩
   ·exact .inl q
   ·exact .inr ⟨y,s',g',p0,p1,p2,p3.symm⟩
  have hRle:∀ {g:Nat×Nat} {r1:Row},r1.mp=false->dM w' (fun b=>M' b∨vg blk1 (EH (mA (gO r.ty ty s 0 cs'))) b) g r1->dM w' (Own M (EH h2) (nZ blk blk1 x)) g r1:=by
   intro g r1 hm1 hr
   unfold dM at hr ⊢
   rw[hm1]at hr ⊢
   obtain⟨arr,k1,k2,k3⟩:=hr
   exact⟨arr,k1,k2,fun j d hj=>⟨(k3 j d hj).1,(k3 j d hj).2.less hown⟩⟩
  rcases dL hx2 rfl rfl hp hk he with⟨rfl,rfl⟩|⟨o,n,xs,rfl,ho,rfl⟩
  ·refine⟨rfl,fun hn=>by have:=(hI.rows k _ (gp hx hm hc hp)).1 hn;exact this,?_⟩
   rw[hbx,h0]
   refine⟨hplace g0 (hbx.trans h0),?_⟩
   have hr0:=hR.rows 0 _ uU
   rw[h0]at hr0
   have hr0:dM w' (fun b=>M' b∨vg blk1 (EH (mA (gO r.ty ty s 0 cs'))) b) g0 ⟨0,r.ty,cs'.mapIdx (qS 0 s),false,true,true⟩:=hr0
   unfold dM at hr0 ⊢
   simp only at hr0 ⊢
   rcases hr0 with⟨ks,vs,k1,_⟩|⟨_,arr,k2,k3,k4⟩
   ·exfalso
    simp only at k1
    have hl:cs'.length=1:=by
     have:=congrArg List.length k1
     simpa using this
    match cs',hl with
    | [d],_ =>
     simp only[List.mapIdx_cons,List.mapIdx_nil,afc,and_true]at k1
     have:=nC 0 s 0 d
     rw[k1]at this
     cases this
   ·refine .inr ⟨fun d hd =>?_,arr,k2,by simpa using k3,fun j d hj =>?_⟩
    ·obtain⟨j,hj⟩:=afa hd
     simp only[ahf,aeM]at hj
     obtain⟨d0,hd0,rfl⟩:=hj
     exact nC _ _ _ _
    ·simp only[ahf,aeM]at hj
     obtain⟨d0,hd0,rfl⟩:=hj
     by_cases hdd:gr d0=true
     ·rw[mC hdd]
      have hj':(cs'.mapIdx (qS 0 s))[j]? = some d0:=by rw[ahf,hd0];exact congrArg some (mC hdd)
      exact (ij hdd).2.2.2 (((ij hdd).2.2.1 (k4 j _ hj')).less hown)
     ·cases d0<;>first|trivial|exact absurd rfl hdd
  ·refine⟨rfl,fun hn=>by have:=gq x o;have:=hI.big;have:=cO;omega,?_⟩
   have hr0:=hR.rows _ _ (sO ho)
   rw[hbN]
   cases hg:blk1 (NK 0 o) with
   | none=>rw[hg]at hr0;exact hr0
   | some g =>
    rw[hg]at hr0
    refine⟨hplace g ((hbN o).trans hg),hRle rfl ?_⟩
    obtain⟨arr,k1,k2,k3⟩:=hr0
    exact⟨arr,k1,k2,k3⟩
 ·intro k l r1 r2 g g' hk hl he he' hg hg' hgg
  obtain⟨q1,p1,p2⟩:=hkey k r1 hk he
  obtain⟨q2,p3,p4⟩:=hkey l r2 hl he'
  have e1:=hR.inj _ _ _ _ g g' p1 p3 (by rw[<- p2];exact hg) (by rw[<- p4];exact hg') hgg
  rcases dL hx2 rfl rfl hp hk he with⟨rfl,_⟩|⟨o,n,xs,rfl,ho,_⟩
  ·rcases dL hx2 rfl rfl hp hl he' with⟨rfl,_⟩|⟨o',n',xs',rfl,ho',_⟩
   ·rfl
   ·rw[tW,kP hp]at e1
    have:=gq 0 o';have:=cO;omega
  ·rcases dL hx2 rfl rfl hp hl he' with⟨rfl,_⟩|⟨o',n',xs',rfl,ho',_⟩
   ·rw[tW,kP hp]at e1
    have:=gq 0 o;have:=cO;omega
   ·rw[kP hp,kP hp]at e1
    rw[(xe mN mN e1).2]
 ·intro k r' hk hv he
  rcases dL hx2 rfl rfl hp hk he with⟨rfl,rfl⟩|⟨o,n,xs,rfl,ho,rfl⟩
  ·refine⟨⟨_,gp hx hm hc hp,rfl⟩,by rw[hbx,h0,hg0],fun g hg =>?_⟩
   rw[hg0]at hg
   cases hg
   exact hsh
  ·exact absurd hv (hV o)
 ·intro k r' g hk he hm' hg j x' s' n hj
  rcases dL hx2 rfl rfl hp hk he with⟨rfl,rfl⟩|⟨o,n',xs,rfl,ho,rfl⟩
  rotate_left
  ·cases hm'
  simp only[ahf,aeM]at hj
  obtain⟨d0,hd0,he0⟩:=hj
  obtain⟨xs1,rfl,rfl,rfl⟩:=xE he0
  rw[hbx]at hg
  obtain⟨_,u,k1,k2⟩:=hR.pha 0 _ g uU rfl hg j (NK 0 j) s' n (by simp only[ahf,hd0,Option.map_some,qS])
  refine⟨⟨hp,.inr rfl⟩,u,k1,fun _ _ =>?_⟩
  have:=k2 _ (sO hd0)
  rw[hbN]
  exact this
 ·intro y r' j x' s' n hy he hm' hj hx'
  have hrow:=(hI.rows y r' he).2
  cases hg:blk y with
  | none =>
   rw[hg]at hrow
   have hrow:r'.cells=[]:=hrow
   rw[hrow]at hj
   cases hj
  | some g =>
   obtain⟨q1,q2⟩:=(hI.pha y r' g he hm' hg j x' s' n hj).1
   rcases q2 with rfl|rfl
   ·have:rt (PK+y)=PK+y:=kv (by omega)
    rw[this]at hx'
    omega
   ·rw[uV q1]at hx'
    rw[y7 q1]at hy
    exact hy hx'
end
section
variable {P:Program} {T:Nat->Option Ty} {N:Nat} {M:Nat->Prop} {L:ky} {w0:World} {blk:Nat->Option (Nat×Nat)} {V:Nat->Nat->Prop} {t:Nat->D} {h:Nat->Option Row} {a:Act} {w:World} {e:Nat} {o:Oper} {Γ:Env}
theorem Inv.abG (hI:Inv N M L w0 blk V t (EH h) a w) {x:Nat} {r:Row} {ty s nv n j:Nat} {cs xs:List D} (hx:h x=some r) (hm:r.mp=true) (hc:r.cells=[.nr ty s nv cs]) (hz:r.fz=false) (hp:x<PK) (hj:cs[j]? = some (.nx n xs)) (hn:xs.length=n*s) :
  Inv N M L w0 blk V t (EH (b8 h x (some ⟨r.v,r.ty,[.nr ty s nv (cs.set j (.sl false false n xs))],false,r.lst,true⟩))) a w∧∀b,Own M (EH (b8 h x (some ⟨r.v,r.ty,[.nr ty s nv (cs.set j (.sl false false n xs))],false,r.lst,true⟩))) blk b->Own M (EH h) blk b:=by
 have hjl:j<cs.length:=(afh.1 hj).1
 obtain⟨g,hg⟩:∃g,blk x=some g:=by
  cases hg:blk x with
  | some g=>exact⟨g,rfl⟩
  | none =>
   have:=(hI.rows x _ (gp hx hm hc hp)).2
   rw[hg]at this
   have h1:cs.mapIdx (qS x s)=[]:=this
   have h2:cs.length=0:=by
    have:=congrArg List.length h1
    simpa using this
   omega
 have hK:EH h (NK x j)=some ⟨nv,ty,xs,false,true,false⟩:=by rw[e9 hx hm hc hp,hj,hz];rfl
 obtain⟨u,hu1,hu2⟩:=hI.Eg hx hm hc hp hg hj
 obtain⟨arr,ha1,ha2,ha3⟩:=hI.HZ hx hm hc hp hg
 have hIf:=hI.freeze [NK x j]
 have hrp:RP w (Own M (aH (EH h) (iX (EH h) [NK x j])) blk) (.sl false false n xs) u:=by
  have hW:=hI.weaken (V':=fun y v=>V y v∨(y=NK x j∧v=nv)) (fun _ _ h =>.inl h)
  have hRT:RT w (Own M (EH h) blk) (EH h) blk (fun y v=>V y v∨(y=NK x j∧v=nv)) (.buf (NK x j) nv s 0 n) u:=by
   refine⟨.inr ⟨rfl,rfl⟩,fun r' hr' hv' =>?_⟩
   rcases hu2 with⟨g1,c,N',ty',k1,k2,k3,k4,k5,k6⟩|⟨k1,k2,k3⟩
   ·exact .inl ⟨g1,g1.2,c,N',ty',k1,k2,fun _=>⟨by omega,k3⟩,k4,k5,k6⟩
   ·exact .inr ⟨k1,k2,k3⟩
  have hl:live (EH h) (NK x j) nv=some ⟨nv,ty,xs,false,true,false⟩:=by
   unfold live
   rw[hK]
   simp
  have hcl:Am.bE (EH h) (.buf (NK x j) nv s 0 n)=some (.sl false false n xs,[NK x j]):=by
   simp only[Am.bE,Am.aR,Am.cX,hl,afB,af7]
   rw[if_pos (by rw[hn];exact aeO _),<- hn,agO]
   rfl
  exact hW.bE hcl (hW.eX [NK x j]) hRT
 generalize hh1:b8 (EH h) (NK x j) none=h1
 have hdrop:b8 (aH (EH h) (iX (EH h) [NK x j])) (NK x j) none=h1:=by
  rw[<- hh1]
  funext k
  by_cases hk:k=NK x j
  ·rw[hk,ay,ay]
  ·rw[aC _ _ hk,aC _ _ hk,DF]
   rw[if_neg (by simpa using hk)]
 have hI2:=hIf.drop (NK x j)
 rw[hdrop]at hI2
 have hown1:∀b,Own M h1 blk b->Own M (aH (EH h) (iX (EH h) [NK x j])) blk b:=by
  rintro b (hb|⟨k,r',g',hk,hz',hg',he⟩)
  ·exact .inl hb
  ·refine .inr ⟨k,r',g',?_,hz',hg',he⟩
   rw[<- hdrop]at hk
   by_cases hkk:k=NK x j
   ·rw[hkk,ay]at hk;cases hk
   ·rwa [aC _ _ hkk]at hk
 have hx1:h1 x=some ⟨r.v,r.ty,cs.mapIdx (qS x s),r.fz,r.lst,true⟩:=by
  rw[<- hh1,aC _ _ (by have:=gq x j;have:=cO;omega)]
  exact gp hx hm hc hp
 have hcs:∀(i:Nat) d,(cs.set j (.sl false false n xs))[i]? = some d->(i=j∧d=.sl false false n xs)∨(i≠j∧cs[i]? = some d):=by
  intro i d hi
  by_cases hji:i=j
  ·subst hji
   rw[ahg hjl]at hi
   exact .inl ⟨rfl,by simpa using hi.symm⟩
  ·rw[ahh (fun e=>hji e.symm)]at hi
   exact .inr ⟨hji,hi⟩
 have hB:=hI2.nR (x:=x) (r:=⟨r.v,r.ty,cs.mapIdx (qS x s),r.fz,r.lst,true⟩) (r0:=⟨r.v,r.ty,(cs.set j (.sl false false n xs)).mapIdx (qS x s),false,r.lst,true⟩) (w':=w) hx1 hz rfl rfl rfl rfl (aeO _) (fun _ _ _=>rfl) (by
   rw[hg]
   refine⟨rfl,.inr ⟨fun d hd =>?_,arr,ha1,by simp only[ahe,agN];exact ha2,fun i d hi =>?_⟩⟩
   ·obtain⟨i,hi⟩:=afa hd
    simp only[ahf,aeM]at hi
    obtain⟨d0,hd0,rfl⟩:=hi
    exact nC _ _ _ _
   ·simp only[ahf,aeM]at hi
    obtain⟨d0,hd0,rfl⟩:=hi
    rcases hcs i d0 hd0 with⟨rfl,rfl⟩|⟨hij,hd1⟩
    ·have e1:arr.getD (g.2+i) undef=u:=by
      have:=bu ha1 (show g.2+i<arr.size by omega)
      rw[this]at hu1
      simpa using hu1
     rw[e1]
     exact hrp.less hown1
    ·by_cases hdd:gr d0=true
     ·rw[mC hdd]
      refine (ij hdd).2.2.2 ((ha3 i d0 hd1 hdd).less fun b hb =>?_)
      rcases hb with hb|⟨k,r',g',hk,hz',hg',he⟩
      ·exact .inl hb
      ·refine .inr ⟨k,r',g',?_,hz',hg',he⟩
       rw[<- hh1]at hk
       by_cases hkk:k=NK x j
       ·rw[hkk,ay]at hk;cases hk
       ·rwa [aC _ _ hkk]at hk
     ·cases d0<;>first|trivial|exact absurd rfl hdd) (fun h=>by cases h) (fun _ g' hg' i x' s' n' hi=>by
   rw[hg]at hg'
   cases hg'
   simp only[ahf,aeM]at hi
   obtain⟨d0,hd0,he⟩:=hi
   obtain⟨xs1,rfl,rfl,rfl⟩:=xE he
   rcases hcs i _ hd0 with⟨rfl,hd1⟩|⟨hij,hd1⟩
   ·cases hd1
   ·exact hI2.pha x _ g hx1 rfl hg i (NK x i) s' n' (by simp only[ahf,hd1,Option.map_some,qS]))
 have hfin:b8 h1 x (some (⟨r.v,r.ty,(cs.set j (.sl false false n xs)).mapIdx (qS x s),false,r.lst,true⟩:Row))=EH (b8 h x (some ⟨r.v,r.ty,[.nr ty s nv (cs.set j (.sl false false n xs))],false,r.lst,true⟩)):=by
  have hx':b8 h x (some (⟨r.v,r.ty,[.nr ty s nv (cs.set j (.sl false false n xs))],false,r.lst,true⟩:Row)) x=some ⟨r.v,r.ty,[.nr ty s nv (cs.set j (.sl false false n xs))],false,r.lst,true⟩:=ay _ _ _
  funext k
  by_cases hkx:rt k=x
  rotate_left
  ·rw[aC _ _ (fun e=>hkx (by rw[e,kv (by have:=cO;omega)])),<- hh1,aC _ _ (fun e=>hkx (by rw[e,uV hp]))]
   exact eU (by rw[aC _ _ hkx])
  rcases xD hkx with rfl|⟨i,rfl⟩
  ·rw[ay,gp hx' rfl rfl hp]
  ·rw[aC _ _ (by have:=gq x i;have:=cO;omega),e9 hx' rfl rfl hp,<- hh1]
   by_cases hij:i=j
   ·rw[hij,ay,ahg hjl];rfl
   ·rw[aC _ _ (fun e=>hij (xe hp hp e).2),e9 hx hm hc hp,ahh (fun e=>hij e.symm),hz]
 rw[hfin]at hB
 refine⟨hB,?_⟩
 rintro b (hb|⟨k,r',g',hk,hz',hg',he⟩)
 ·exact .inl hb
 ·rw[<- hfin]at hk
  by_cases hkx:k=x
  ·subst hkx
   exact .inr ⟨k,_,g',gp hx hm hc hp,hz,hg',he⟩
  ·rw[aC _ _ hkx,<- hh1]at hk
   by_cases hkk:k=NK x j
   ·rw[hkk,ay]at hk;cases hk
   ·rw[aC _ _ hkk]at hk
    exact .inr ⟨k,r',g',hk,hz',hg',he⟩
end
def FR (s:Nat):D->Bool
 | .nx n xs=>xs.length==n*s
 | d=>gr d
def sW (k o:Nat) (cs:List D):List D:=cs.mapIdx fun i d=>if o<=i∧i<o+k then unN d else d
section
variable {P:Program} {T:Nat->Option Ty} {N:Nat} {M:Nat->Prop} {L:ky} {w0:World} {blk:Nat->Option (Nat×Nat)} {V:Nat->Nat->Prop} {t:Nat->D} {h:Nat->Option Row} {a:Act} {w:World} {e:Nat} {o:Oper} {Γ:Env}
theorem I7 (o:Nat) (cs:List D):sW 0 o cs=cs:=by
 unfold sW
 apply agP
 intro i
 rw[ahf]
 cases cs[i]? with
 | none=>rfl
 | some d=>simp only[Option.map_some];rw[if_neg (by omega)]
theorem wq (k o:Nat) (cs:List D) (i:Nat):(sW k o cs)[i]? = (cs[i]?).map fun d=>if o<=i∧i<o+k then unN d else d:=by
 unfold sW
 rw[ahf]
theorem Inv.acE (hI:Inv N M L w0 blk V t (EH h) a w) {x:Nat} {r:Row} {ty s nv o:Nat} {cs:List D} (hx:h x=some r) (hm:r.mp=true) (hc:r.cells=[.nr ty s nv cs]) (hz:r.fz=false) (hp:x<PK):∀k:Nat,((cs.drop o).take k).all (FR s)=true ->
  Inv N M L w0 blk V t (EH (b8 h x (some ⟨r.v,r.ty,[.nr ty s nv (sW k o cs)],false,r.lst,true⟩))) a w∧∀b,Own M (EH (b8 h x (some ⟨r.v,r.ty,[.nr ty s nv (sW k o cs)],false,r.lst,true⟩))) blk b->Own M (EH h) blk b
 | 0,_=>by
  have:b8 h x (some (⟨r.v,r.ty,[.nr ty s nv (sW 0 o cs)],false,r.lst,true⟩:Row))=h:=by
   funext k
   by_cases hk:k=x
   ·rw[hk,ay,I7,hx]
    cases r
    simp only at hm hc hz
    rw[hm,hc,hz]
   ·rw[aC _ _ hk]
  rw[this]
  exact⟨hI,fun _ h=>h⟩
 | k+1,hall=>by
  have hall':((cs.drop o).take k).all (FR s)=true:=by
   rw[aeZ]at hall ⊢
   intro d hd
   obtain⟨i,hi⟩:=afa hd
   refine hall d (afg (i:=i) ?_)
   rw[ae4]at hi ⊢
   split at hi
   ·rw[if_pos (by omega)];exact hi
   ·cases hi
  obtain⟨h1,h2⟩:=hI.acE hx hm hc hz hp k hall'
  have hsame:(∀n xs,cs[o+k]?≠some (.nx n xs))->sW (k+1) o cs=sW k o cs:=by
   intro hn
   apply agP
   intro i
   rw[wq,wq]
   cases hci:cs[i]? with
   | none=>rfl
   | some d =>
    simp only[Option.map_some,aeX]
    by_cases hik:i=o+k
    ·subst hik
     rw[if_pos (by omega),if_neg (by omega)]
     cases d<;>first|rfl|exact absurd hci (hn _ _)
    ·by_cases hin:o<=i∧i<o+k
     ·rw[if_pos hin,if_pos (by omega)]
     ·rw[if_neg hin,if_neg (by omega)]
  by_cases hnx:∃n xs,cs[o+k]? = some (.nx n xs)
  rotate_left
  ·rw[hsame fun n xs h=>hnx ⟨n,xs,h⟩]
   exact⟨h1,h2⟩
  obtain⟨n,xs,hnx⟩:=hnx
  have hlen:xs.length=n*s:=by
   have:=aeZ.1 hall (.nx n xs) (afg (i:=k) (by rw[ae4,if_pos (by omega),ae5];exact hnx))
   simpa [FR] using this
  have hset:sW (k+1) o cs=(sW k o cs).set (o+k) (.sl false false n xs):=by
   have hlt:=(afh.1 hnx).1
   apply agP
   intro i
   rw[wq]
   by_cases hik:i=o+k
   ·subst hik
    rw[ahg (by simpa [sW] using hlt),hnx]
    simp only[Option.map_some]
    rw[if_pos (by omega)]
    rfl
   ·rw[ahh (fun e=>hik e.symm),wq]
    cases hci:cs[i]? with
    | none=>rfl
    | some d =>
     simp only[Option.map_some,aeX]
     by_cases hin:o<=i∧i<o+k
     ·rw[if_pos hin,if_pos (by omega)]
     ·rw[if_neg hin,if_neg (by omega)]
  have hj:(sW k o cs)[o+k]? = some (.nx n xs):=by
   rw[wq,hnx]
   simp only[Option.map_some]
   rw[if_neg (by omega)]
  obtain⟨h3,h4⟩:=h1.abG (x:=x) (ay _ _ _) rfl rfl rfl hp hj hlen
  have hupd:∀(r1 r2:Option Row),b8 (b8 h x r1) x r2=b8 h x r2:=by
   intro r1 r2
   funext i
   by_cases hi:i=x
   ·rw[hi,ay,ay]
   ·rw[aC _ _ hi,aC _ _ hi,aC _ _ hi]
  rw[hupd,<- hset]at h3 h4
  exact⟨h3,fun b hb=>h2 b (h4 b hb)⟩
def Jh (x:Nat) (r:Row) (ty s o k:Nat):Option Nat->Option (D×List D)->Option bM
 | some nv',some (d,cs')=>if ((cs'.drop o).take k).all (FR s)=true then some ⟨d,[(x,some ⟨r.v,r.ty,[.nr ty s nv' (sW k o cs')],false,r.lst,true⟩)]⟩ else none
 | _,_=>none
def CL (e x:Nat) (r:Row) (ty s nv:Nat) (cs:List D) (o:Nat):Option (Nat×(Nat->Nat->Nat->Nat->List D->List D->Option (D×List D)))->Option (List D×List Nat)->Option bM
 | some p,some (aeJ,[])=>Jh x r ty s o p.1 (pU nv e) (p.2 r.ty ty s o cs aeJ)
 | _,_=>none
def qT (Γ:Env) (e:Nat) (h:Nat->Option Row) (g:Nat):List D->Option bM
 | .ptr x v o::rest =>
  match jB h x v with
  | some (r,ty,s,nv,cs)=>CL e x r ty s nv cs o (Γ.nx.lnd g) (bk (EH h) rest)
  | none=>none
 | _=>none
theorem rZ {g:Nat} {args:List D} {E:bM} (hE:qT Γ e h g args=some E):∃x v o rest r ty s nv cs p aeJ nv' d cs',args=.ptr x v o::rest∧jB h x v=some (r,ty,s,nv,cs)∧Γ.nx.lnd g=some p∧bk (EH h) rest=some (aeJ,[])∧pU nv e=some nv'∧p.2 r.ty ty s o cs aeJ=some (d,cs') ∧
  ((cs'.drop o).take p.1).all (FR s)=true∧E=⟨d,[(x,some ⟨r.v,r.ty,[.nr ty s nv' (sW p.1 o cs')],false,r.lst,true⟩)]⟩:=by
 unfold qT at hE
 split at hE<;>try (cases hE;done)
 rename_i x v o rest
 split at hE<;>try (cases hE;done)
 rename_i r ty s nv cs hl
 unfold CL at hE
 split at hE<;>try (cases hE;done)
 rename_i p aeJ hp hca
 unfold Jh at hE
 split at hE<;>try (cases hE;done)
 rename_i nv' d cs' hb hs
 split at hE<;>try (cases hE;done)
 rename_i hall
 exact⟨x,v,o,rest,r,ty,s,nv,cs,p,aeJ,nv',d,cs',rfl,hl,hp,hca,hb,hs,hall,by simpa using hE.symm⟩
theorem Wx (hΓ:bq P Γ) (hI:Inv N M L w0 blk V t (EH h) a w) (hVw:abo V h e) {g:Nat} {dst:Option Nat} {args:List D} {vs:Array Value} {E:bM} (hE:qT Γ e h g args=some E) (hsz:vs.size=args.length)
  (hr:∀(j:Nat) d,args[j]? = some d->RT w (Own M (EH h) blk) (EH h) blk V d (vs.getD j undef)):dx P g∧Calls P g vs w fun e' w'=>∃v,e'=.returned v∧qE N M L w0 V t h a e dst E v w':=by
 obtain⟨x,v,o,rest,r,ty,s,nv,cs,p,aeJ,nv',d,cs',rfl,hl,hp,hca,hb,hs,hall,rfl⟩:=rZ hE
 obtain⟨hx,hv,hz,hm,hp1,hc⟩:=mW hl
 obtain⟨hcl,hcalls⟩:=hΓ.lnd g p hp
 refine⟨hcl,?_⟩
 have h0:=hr 0 _ rfl
 have hEx:=gp hx hm hc hp1
 obtain⟨g0,hg0,hu0⟩:=h0.2 _ hEx hv
 have hvs:vs = #[.pointer (some ⟨g0.1,g0.2+o,none⟩)]++vs.extract 1 vs.size:=by
  have h1:0<vs.size:=by rw[hsz];simp
  rw[<- hu0]
  apply Array.ext
  ·simp;omega
  ·intro i h1 h2
   cases i with
   | zero=>simp[afQ h1]
   | succ i=>simp[afU];congr 1;omega
 have hsz':(vs.extract 1 vs.size).size=rest.length:=by simp at hsz ⊢;omega
 have hr':∀(j:Nat) d,rest[j]? = some d->RT w (Own M (EH h) blk) (EH h) blk V d ((vs.extract 1 vs.size).getD j undef):=by
  intro j d hj
  have:=hr (j+1) d (by simpa using hj)
  have e1:(vs.extract 1 vs.size).getD j undef=vs.getD (j+1) undef:=by
   simp only[aeT]
   congr 1
   rw[Array.getElem?_extract]
   split
   ·congr 1;omega
   ·rename_i hh;rw[Array.getElem?_eq_none (by omega)]
  rw[e1];exact this
 obtain⟨M',hM'⟩:∃M':Nat->Prop,∀b,M' b↔Own M (EH h) blk b∧¬InX blk h x b:=⟨_,fun _=>Iff.rfl⟩
 have hInX:∀b,InX blk h x b->Own M (EH h) blk b:=by
  rintro b ⟨k,r',g',q0,q1,q2,q3⟩
  refine .inr ⟨k,r',g',q1,?_,q2,q3⟩
  rcases dL hx hm hc hp1 q0 q1 with⟨_,rfl⟩|⟨_,_,_,_,_,rfl⟩<;>exact hz
 have hIB:=Ja (blk:=blk) hx hm hc hp1
 have hQ:∀b,(M' b∨vg (pW blk x) (EH (mA (gO r.ty ty s 0 cs))) b)->Own M (EH h) blk b:=fun b hb=>hb.elim (fun hb=>((hM' b).1 hb).1) (fun hb=>hInX b ((hIB b).1 hb))
 have hargs:=hI.Ct hca ⟨fun b h=>h,fun x hx=>by cases hx⟩ hsz' hr'
 have hA:Av w (fun b=>M' b∨vg (pW blk x) (EH (mA (gO r.ty ty s 0 cs))) b) aeJ (vs.extract 1 vs.size):=⟨hargs.1,fun j d hj=>(hargs.2 j d hj).less hQ,fun b hb=>(hargs.tab b hb).less hQ⟩
 rw[hvs]
 refine (hcalls _ _ _ _ _ _ _ _ hs w M' (pW blk x) _ _ g0 _ rfl rfl (fun b hb=>hI.xB ((hM' b).1 hb).1) (fun b hb hb'=>((hM' b).1 hb').2 ((hIB b).1 hb)) (by rw[pW,qM];exact hg0) (hI.abM hx hm hc hz hp1 hQ) hA).mono fun e' w' hg =>?_
 obtain⟨u,blk1,he,hbey,q0,qsh,qnew,qR,qrp⟩:=hg
 refine⟨u,he,nZ blk blk1 x,?_⟩
 obtain⟨k1,k2⟩:=hI.back hx hm hc hz hp1 (hVw x r ty s nv cs nv' hx hm hc hp1 hb) hg0 rfl hM' ⟨hbey.os,hbey.tape,hbey.output,hbey.size,fun k hk hn=>hbey.block k hk fun hh=>hn ((hIB k).1 hh)⟩ q0 qsh (fun b hb=>(qnew b hb).imp id fun hh=>(hIB b).1 hh) qR
 obtain⟨k3,k4⟩:=k1.acE (x:=x) (o:=o) (ay _ _ _) rfl rfl rfl hp1 p.1 hall
 have hupd:∀(r1 r2:Option Row),b8 (b8 h x r1) x r2=b8 h x r2:=by
  intro r1 r2
  funext i
  by_cases hi:i=x
  ·rw[hi,ay,ay]
  ·rw[aC _ _ hi,aC _ _ hi,aC _ _ hi]
 rw[hupd]at k3 k4
 exact⟨k3.weaken fun _ _ h =>.inl h,bD (qrp.less fun b hb=>k2 b (k4 b hb))⟩
end
def Jg (e d:Nat):Option (Nat×Nat×Nat×Nat×Nat×List D)->Option bM
 | some (ty,t,s,S,n,cs)=>if d<PK then some ⟨.buf d e S 0 n,[(d,some ⟨e,ty,[.nr t s (4*e+2) cs],false,true,true⟩)]⟩ else none
 | none=>none
def Gv (p:List D->Option (Nat×Nat×Nat×Nat×Nat×List D)) (e d:Nat):Option (List D×List Nat)->Option bM
 | some (aeJ,[])=>Jg e d (p aeJ)
 | _=>none
theorem xf {p:List D->Option (Nat×Nat×Nat×Nat×Nat×List D)} {e d:Nat} {c:Option (List D×List Nat)} {E:bM} (hE:Gv p e d c=some E):∃aeJ ty t s S n cs,c=some (aeJ,[])∧p aeJ=some (ty,t,s,S,n,cs)∧d<PK∧E=⟨.buf d e S 0 n,[(d,some ⟨e,ty,[.nr t s (4*e+2) cs],false,true,true⟩)]⟩:=by
 unfold Gv at hE
 split at hE<;>try (cases hE;done)
 rename_i aeJ
 unfold Jg at hE
 split at hE<;>try (cases hE;done)
 rename_i ty t s S n cs hp
 split at hE<;>try (cases hE;done)
 rename_i hd
 exact⟨aeJ,ty,t,s,S,n,cs,rfl,hp,hd,by simpa using hE.symm⟩
section
variable {P:Program} {T:Nat->Option Ty} {N:Nat} {M:Nat->Prop} {L:ky} {w0:World} {blk:Nat->Option (Nat×Nat)} {V:Nat->Nat->Prop} {t:Nat->D} {h:Nat->Option Row} {a:Act} {w:World} {e:Nat} {o:Oper} {Γ:Env}
theorem Wv (hΓ:bq P Γ) (hI:Inv N M L w0 blk V t (EH h) a w) {g d:Nat} {dst:Option Nat} {p:List D->Option (Nat×Nat×Nat×Nat×Nat×List D)} {args:List D} {vs:Array Value} {E:bM} (hd:dst=some d) (hV:kp N V d e) (hV':∀o',¬V (NK d o') (4*e+2)) (hp:Γ.nx.res g=some p)
  (hE:Gv p e d (bk (EH h) args)=some E) (hsz:vs.size=args.length) (hr:∀(j:Nat) d,args[j]? = some d->RT w (Own M (EH h) blk) (EH h) blk V d (vs.getD j undef)):dx P g∧Calls P g vs w fun e' w'=>∃v,e'=.returned v∧qE N M L w0 V t h a e dst E v w':=by
 obtain⟨aeJ,ty,ti,s,S,n,cs,hca,hs,hdp,rfl⟩:=xf hE
 obtain⟨hcl,hcalls⟩:=hΓ.res g p hp
 refine⟨hcl,?_⟩
 have hargs:=hI.Ct hca ⟨fun b h=>h,fun x hx=>by cases hx⟩ hsz hr
 refine (hcalls _ _ _ _ _ _ _ hs w (Own M (EH h) blk) _ vs rfl (fun b hb=>hI.xB hb) hargs).mono fun e' w' hg =>?_
 obtain⟨u,blk1,he,hbel,hnew,hR,hu⟩:=hg
 refine⟨u,he,nZ blk blk1 d,?_⟩
 have hA:=hI.le (SK (h:=h) d hdp)
 generalize hh2:b8 h d (some (⟨e,ty,[.nr ti s (4*e+2) cs],false,true,true⟩:Row))=h2
 have hap:aH h [(d,some (⟨e,ty,[.nr ti s (4*e+2) cs],false,true,true⟩:Row))]=h2:=by rw[<- hh2];rfl
 rw[hap]
 have hx2:h2 d=some ⟨e,ty,[.nr ti s (4*e+2) cs],false,true,true⟩:=by rw[<- hh2,ay]
 have hn0:∀k,rt k=d->EH (b8 h d none) k=none:=fun k hk=>RR (by rw[hk,ay])
 have hne2:∀k,rt k≠d->EH h2 k=EH (b8 h d none) k:=fun k hk=>eU (by rw[<- hh2,aC _ _ hk,aC _ _ hk])
 have hbne:∀k,rt k≠d->nZ blk blk1 d k=blk k:=fun k hk=>if_neg hk
 have hbx:nZ blk blk1 d d=blk1 0:=by unfold nZ;rw[if_pos (y7 hdp),tW]
 have hbN:∀o,nZ blk blk1 d (NK d o)=blk1 (NK 0 o):=fun o=>by unfold nZ;rw[if_pos (uV hdp),kP hdp]
 have hkey:∀k r',rt k=d->EH h2 k=some r'->∃r1,EH (mA (gO ty ti s 0 cs)) (Fu d k)=some r1∧nZ blk blk1 d k=blk1 (Fu d k):=by
  intro k r' hk he
  have hq:nZ blk blk1 d k=blk1 (Fu d k):=if_pos hk
  rcases dL hx2 rfl rfl hdp hk he with⟨rfl,_⟩|⟨o,n,xs,rfl,ho,_⟩
  ·rw[tW]at hq ⊢;exact⟨_,uU,hq⟩
  ·rw[kP hdp]at hq ⊢;exact⟨_,sO ho,hq⟩
 have hown:∀b,Own M (EH h2) (nZ blk blk1 d) b->Own M (EH h) blk b∨vg blk1 (EH (mA (gO ty ti s 0 cs))) b:=by
  intro b hb'
  rcases hb' with hb'|⟨k,r',g,hk,hz',hg,he⟩
  ·exact .inl (.inl hb')
  ·by_cases hkx:rt k=d
   ·obtain⟨r1,q1,q2⟩:=hkey k r' hkx hk
    exact .inr ⟨_,r1,g,q1,by rw[<- q2];exact hg,he⟩
   ·rw[hne2 k hkx]at hk
    rw[hbne k hkx]at hg
    refine .inl (.inr ⟨k,r',g,?_,hz',hg,he⟩)
    rw[<- hk]
    exact eU (by rw[aC _ _ hkx])
 have hRle:∀ {g:Nat×Nat} {r1:Row},r1.mp=false->dM w' (fun b=>Own M (EH h) blk b∨vg blk1 (EH (mA (gO ty ti s 0 cs))) b) g r1->dM w' (Own M (EH h2) (nZ blk blk1 d)) g r1:=by
  intro g r1 hm1 hr
  unfold dM at hr ⊢
  rw[hm1]at hr ⊢
  obtain⟨arr,k1,k2,k3⟩:=hr
  exact⟨arr,k1,k2,fun j d hj=>⟨(k3 j d hj).1,(k3 j d hj).2.less hown⟩⟩
 have hplace:∀k r',rt k=d->EH h2 k=some r'->∀g,nZ blk blk1 d k=some g->w.heap.size<=g.1:=by
  intro k r' hk he g hg
  obtain⟨r1,q1,q2⟩:=hkey k r' hk he
  exact hnew g.1 ⟨_,r1,g,q1,by rw[<- q2];exact hg,rfl⟩
 have hInv:Inv N M L w0 (nZ blk blk1 d) (fun y v=>V y v∨(y=d∧v=e)) t (EH h2) a w':=by
  refine hA.abc (fun k=>rt k=d) (fun _ _ h =>.inl h) hbel.os hbel.tape hbel.output hbel.size (fun k hk _=>hbel.block k hk) (fun k r' hk he=>by rw[hn0 k hk]at he;cases he) (fun k hk=>⟨hne2 k hk,hbne k hk⟩) ?_ ?_ ?_ ?_ ?_
  ·intro k r' hk he
   rcases dL hx2 rfl rfl hdp hk he with⟨rfl,rfl⟩|⟨o,n,xs,rfl,ho,rfl⟩
   ·refine⟨rfl,fun hn =>.inr ⟨rfl,rfl⟩,?_⟩
    rw[hbx]
    have hr0:=hR.rows 0 _ uU
    cases hg:blk1 0 with
    | none =>
     rw[hg]at hr0
     have h1:cs.mapIdx (qS 0 s)=[]:=hr0
     have h2:cs.length=0:=by
      have:=congrArg List.length h1
      simpa using this
     show cs.mapIdx (qS k s)=[]
     rw[afW h2]
     rfl
    | some g0 =>
     rw[hg]at hr0
     have hr0:dM w' (fun b=>Own M (EH h) blk b∨vg blk1 (EH (mA (gO ty ti s 0 cs))) b) g0 ⟨0,ty,cs.mapIdx (qS 0 s),false,true,true⟩:=hr0
     refine⟨.inl (hplace k _ hk he g0 (hbx.trans hg)),?_⟩
     unfold dM at hr0 ⊢
     simp only at hr0 ⊢
     rcases hr0 with⟨ks,vs,k1,_⟩|⟨_,arr,k2,k3,k4⟩
     ·exfalso
      simp only at k1
      have hl:cs.length=1:=by
       have:=congrArg List.length k1
       simpa using this
      match cs,hl with
      | [d],_ =>
       simp only[List.mapIdx_cons,List.mapIdx_nil,afc,and_true]at k1
       have:=nC 0 s 0 d
       rw[k1]at this
       cases this
     ·refine .inr ⟨fun d hd =>?_,arr,k2,by simpa using k3,fun j d hj =>?_⟩
      ·obtain⟨j,hj⟩:=afa hd
       simp only[ahf,aeM]at hj
       obtain⟨d0,hd0,rfl⟩:=hj
       exact nC _ _ _ _
      ·simp only[ahf,aeM]at hj
       obtain⟨d0,hd0,rfl⟩:=hj
       by_cases hdd:gr d0=true
       ·rw[mC hdd]
        have hj':(cs.mapIdx (qS 0 s))[j]? = some d0:=by rw[ahf,hd0];exact congrArg some (mC hdd)
        exact (ij hdd).2.2.2 (((ij hdd).2.2.1 (k4 j _ hj')).less hown)
       ·cases d0<;>first|trivial|exact absurd rfl hdd
   ·refine⟨rfl,fun hn=>by have:=gq d o;have:=hI.big;have:=cO;omega,?_⟩
    have hr0:=hR.rows _ _ (sO ho)
    rw[hbN]
    cases hg:blk1 (NK 0 o) with
    | none=>rw[hg]at hr0;exact hr0
    | some g =>
     rw[hg]at hr0
     refine⟨.inl (hplace _ _ hk he g ((hbN o).trans hg)),hRle rfl ?_⟩
     obtain⟨arr,k1,k2,k3⟩:=hr0
     exact⟨arr,k1,k2,k3⟩
  ·intro k l r1 r2 g g' hk hl he he' hg hg' hgg
   obtain⟨q1,p1,p2⟩:=hkey k r1 hk he
   obtain⟨q2,p3,p4⟩:=hkey l r2 hl he'
   have e1:=hR.inj _ _ _ _ g g' p1 p3 (by rw[<- p2];exact hg) (by rw[<- p4];exact hg') hgg
   rcases dL hx2 rfl rfl hdp hk he with⟨rfl,_⟩|⟨o,n,xs,rfl,ho,_⟩
   ·rcases dL hx2 rfl rfl hdp hl he' with⟨rfl,_⟩|⟨o',n',xs',rfl,ho',_⟩
    ·rfl
    ·rw[tW,kP hdp]at e1
     have:=gq 0 o';have:=cO;omega
   ·rcases dL hx2 rfl rfl hdp hl he' with⟨rfl,_⟩|⟨o',n',xs',rfl,ho',_⟩
    ·rw[tW,kP hdp]at e1
     have:=gq 0 o;have:=cO;omega
    ·rw[kP hdp,kP hdp]at e1
     rw[(xe mN mN e1).2]
  ·intro k r' hk hv he
   rcases dL hx2 rfl rfl hdp hk he with⟨rfl,rfl⟩|⟨o,n,xs,rfl,ho,rfl⟩
   ·exact absurd hv hV.no
   ·exact absurd hv (hV' o)
  ·intro k r' g hk he hm' hg j x' s' n hj
   rcases dL hx2 rfl rfl hdp hk he with⟨rfl,rfl⟩|⟨o,n',xs,rfl,ho,rfl⟩
   rotate_left
   ·cases hm'
   simp only[ahf,aeM]at hj
   obtain⟨d0,hd0,he0⟩:=hj
   obtain⟨xs1,rfl,rfl,rfl⟩:=xE he0
   rw[hbx]at hg
   obtain⟨_,u,k1,k2⟩:=hR.pha 0 _ g uU rfl hg j (NK 0 j) s' n (by simp only[ahf,hd0,Option.map_some,qS])
   refine⟨⟨hdp,.inr rfl⟩,u,k1,fun _ _ =>?_⟩
   have:=k2 _ (sO hd0)
   rw[hbN]
   exact this
  ·intro y r' j x' s' n hy he hm' hj hx'
   have hrow:=(hA.rows y r' he).2
   cases hg:blk y with
   | none =>
    rw[hg]at hrow
    have hrow:r'.cells=[]:=hrow
    rw[hrow]at hj
    cases hj
   | some g =>
    obtain⟨q1,q2⟩:=(hA.pha y r' g he hm' hg j x' s' n hj).1
    rcases q2 with rfl|rfl
    ·have:rt (PK+y)=PK+y:=kv (by omega)
     rw[this]at hx'
     omega
    ·rw[uV q1]at hx'
     rw[y7 q1]at hy
     exact hy hx'
 refine⟨hInv.weaken fun x v hx =>?_,.inr ⟨hd,rfl⟩,fun r' _ _ =>?_⟩
 ·rcases hx with hx|⟨rfl,rfl⟩
  ·exact .inl hx
  ·exact .inr ⟨hd,rfl⟩
 ·rw[hbx]
  exact hu.2 ⟨0,0,[],false,false,false⟩ rfl rfl
theorem C7 (hI:Inv N M L w0 blk V t h a w) {c:Call} {f:Operand} {g:Nat} (ho:o.op=.call c) (hc:c.callee=.value f) (hf:ev t f=.fn g) {Φ:Value->World->Prop}
  (hk:∀vs:Array Value,vs.size=(c.args.toList.map (ev t)).length->(∀(j:Nat) d,(c.args.toList.map (ev t))[j]? = some d->RT w (Own M h blk) h blk V d (vs.getD j undef))->dx P g∧Calls P g vs w fun e' w'=>∃v,e'=.returned v∧Φ v w'):eK P o a w Φ:=by
 have hfv:=hI.ev f
 have hargs:∀(j:Nat) d,(c.args.toList.map (ev t))[j]? = some d->RT w (Own M h blk) h blk V d ((c.args.map a.eval).getD j undef):=by
  intro j d hj
  rw[aeL]at hj
  cases hx:c.args.toList[j]? with
  | none=>simp[hx]at hj
  | some x =>
   simp only[hx,Option.map_some,aeX]at hj
   subst hj
   have:(c.args.map a.eval).getD j undef=a.eval x:=by
    have hx':c.args[j]? = some x:=by simpa using hx
    simp[hx']
   rw[this]
   exact hI.ev x
 have hsz:(c.args.map a.eval).size=(c.args.toList.map (ev t)).length:=by simp
 rw[hf]at hfv
 have hfv':a.eval f=.func (.func g) #[] #[]:=by
  have hf':RP w (Own M h blk) (.fn g) (a.eval f):=hfv
  generalize a.eval f=u at *
  cases hf'
  rfl
 obtain⟨⟨fn,hfn,hname,hbody⟩,h2⟩:=hk _ hsz hargs
 have hn:¬fn.name = "runtime.NumGoroutine":=by simpa using hname
 have hb:¬fn.body=none:=by
  intro h0
  rw[h0]at hbody
  cases hbody
 exact .inr (.inr ⟨g,#[]++c.args.map a.eval++#[],by simp[execOp,ho,resolve,hc,hfv',Deferred.ofValue,invoke,callFunc,program,Sem.run,hfn,hn,hb],by simpa using h2⟩)
end
end Go.Proofs.Ytchndpjlijbplaa.Am
