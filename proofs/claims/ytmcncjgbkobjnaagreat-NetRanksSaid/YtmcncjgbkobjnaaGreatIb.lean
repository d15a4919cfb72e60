/- Part of a proof. -/
import Derived.Test.YtmcncjgbkobjnaaGreatIa
set_option linter.unusedSimpArgs false
set_option linter.unusedVariables false
noncomputable section
namespace Go.Proofs.YtmcncjgbkobjnaaGreat.Am
open Go.RowKit
section
variable {P:Program} {T:Nat->Option Ty} {N:Nat} {M:Nat->Prop} {L:ik} {w0:World} {blk:Nat->Option (Nat×Nat)} {V:Nat->Nat->Prop} {t:Nat->D} {h:Nat->Option Row} {a:Act} {w:World} {e:Nat} {o:Oper} {Γ:Env}
theorem aaG (hT:gm P T) {ft:Nat} {φ:Ty} (hφ:T ft=some φ) (hs:jA φ.ds=true) {x y:D} {u v:Value} {b:Bool} {M':Nat->Prop} (hx:RP w M' x u) (hy:RP w M' y v) (hb:Px x y=some b) (n:Nat) :
  (∃d,P.underlying ft=some d)∧((∃k,φ.ds=.int k∧∃k' i j,x=.int k' i∧y=.int k' j)∨(φ.ds=.bool∧∃i j,x=.bool i∧y=.bool j)∨(φ.ds=.str∧∃i j,x=.str i∧y=.str j)->(Op.equalIn (n+1) ft u v).run P w=.ok b w):=by
 obtain⟨d,hd,hc⟩:=under hT hφ
 refine⟨⟨d,hd⟩,?_⟩
 rintro (⟨k,hk,k',i,j,rfl,rfl⟩|⟨hk,i,j,rfl,rfl⟩|⟨hk,i,j,rfl,rfl⟩)
 ·rw[hk]at hc
  have:=xa hc
  subst this
  cases hx;cases hy
  simp only[Px,if_true,afE]at hb
  subst hb
  simp[Op.equalIn,run_underlying hd]
 ·rw[hk]at hc
  have:=uc hc
  subst this
  cases hx;cases hy
  simp only[Px,afE]at hb
  subst hb
  simp[Op.equalIn,run_underlying hd]
 ·rw[hk]at hc
  have:=pI hc
  subst this
  cases hx;cases hy
  simp only[Px,afE]at hb
  subst hb
  simp[Op.equalIn,run_underlying hd]
theorem UP {x y:D} {b:Bool} {s:Ds} (hb:Px x y=some b) (hk:kindOk s x=true) :
  (∃k,s=.int k∧∃k' i j,x=.int k' i∧y=.int k' j)∨(s=.bool∧∃i j,x=.bool i∧y=.bool j)∨(s=.str∧∃i j,x=.str i∧y=.str j):=by
 cases x<;>cases y<;>simp only[Px]at hb<;>try (cases hb;done)
 ·rename_i k i k' j
  split at hb
  ·rename_i he
   subst he
   cases s<;>simp[kindOk]at hk
   exact .inl ⟨_,rfl,_,_,_,rfl,rfl⟩
  ·cases hb
 ·cases s<;>simp[kindOk]at hk
  exact .inr (.inl ⟨rfl,_,_,rfl,rfl⟩)
 ·cases s<;>simp[kindOk]at hk
  exact .inr (.inr ⟨rfl,_,_,rfl,rfl⟩)
theorem Jk (hI:Inv N M L w0 blk V t h a w) {x:Operand} {i:Nat} {xs:List D} {d:D} (ho:o.op=.extract x i) (hx:ev t x=.tup xs) (hd:xs[i]? = some d):dz P o a w (aV N M L w0 V t h a e o.dst ⟨d,[]⟩):=by
 have hp:=hI.ev x
 rw[hx]at hp
 have hp':RP w (Own M h blk) (.tup xs) (a.eval x):=hp
 generalize hu:a.eval x=u at *
 cases hp' with
 | tup xs us h1 h2 =>
  have hlt:=(afY.1 hd).1
  refine aD (v:=us.getD i undef) (w':=w) ?_ (aV.de hI (bo (h2 i d hd)))
  have hget:us[i]? = some (us.getD i undef):=by simp[List.getD,afI (show i<us.length by omega)]
  generalize us.getD i undef=v at *
  simp[execOp,ho,Instr.extract,hu,hget]
theorem Jj (hT:gm P T) (hI:Inv N M L w0 blk V t h a w) {x:Operand} {src ty:Nat} {τ σ:Ty} {k k':IntKind} {n:Int} (ho:o.op=.convert src ty x) (hτ:T ty=some τ) (hσ:T src=some σ) (hds:τ.ds=.int k') (hx:ev t x=.int k n) :
  dz P o a w (aV N M L w0 V t h a e o.dst ⟨.int k' (k'.wrap n),[]⟩):=by
 have hp:=hI.ev x
 rw[hx]at hp
 have hu:=ky hp
 obtain⟨d,hd,hc⟩:=under hT hτ
 obtain⟨d2,hd2,_⟩:=under hT hσ
 rw[hds]at hc
 have:=xa hc
 subst this
 refine aD (v := .int k' (k'.wrap n)) (w':=w) ?_ (aV.de hI (bo (.int _ _)))
 have:=run_convert_int (P:=P) (w:=w) src ty k n (by simp[hd2])
 simp[execOp,ho,hu,convert,run_underlying hd,run_underlying hd2,Conv.intToInt]
theorem UJ (hI:Inv N M L w0 blk V t h a w) {x:Operand} {op:UnOp} {ty:Nat} {d:D} (ho:o.op=.unOp op ty x) (hd:FN op (ev t x)=some d):dz P o a w (aV N M L w0 V t h a e o.dst ⟨d,[]⟩):=by
 have hp:=hI.ev x
 generalize ev t x=q at *
 cases q with
 | int k n =>
  have hu:=ky hp
  cases op<;>simp only[FN,afE]at hd<;>try (cases hd;done)
  all_goals
   subst hd
   refine aD (w':=w) ?_ (aV.de hI (bo (.int _ _)))
   simp[execOp,ho,hu,Op.unary,Op.intArith,Op.intBits,BX]
 | bool b =>
  have hu:=tV hp
  cases op<;>simp only[FN,afE]at hd<;>try (cases hd;done)
  all_goals
   subst hd
   refine aD (w':=w) ?_ (aV.de hI (bo (.bool _)))
   simp[execOp,ho,hu,Op.unary]
 | _=>simp[FN]at hd
theorem uj:∀ {xs:List D},nQ xs=true->∀x∈xs,fI x=true
 | [],_,x,hx=>by simp at hx
 | y::ys,h,x,hx=>by
  simp only[nQ,af6]at h
  rcases afC.1 hx with rfl|hx
  ·exact h.1
  ·exact uj h.2 x hx
theorem RP.flat {M1 M2:Nat->Prop} {d:D} {u:Value} (hr:RP w M1 d u) (hf:fI d=true):RP w M2 d u:=by
 induction hr with
 | int k n=>exact .int k n
 | bool b=>exact .bool b
 | str s=>exact .str s
 | sl A c nl tight n xs us h1 h2 h3 h4 h5 h6 h7 h8 ih=>simp[fI]at hf
 | agg xs us h1 h2 h3 ih =>
  simp only[fI]at hf
  exact .agg xs us h1 (fun j x hj=>ih j x hj (uj hf x (afX hj))) h3
 | tup xs us h1 h2 ih =>
  simp only[fI]at hf
  exact .tup xs us h1 (fun j x hj=>ih j x hj (uj hf x (afX hj)))
 | ip xs ad us h6 h7 h8 ih=>simp[fI]at hf
 | fn f=>exact .fn f
 | ali x v s o n u h1=>simp[fI]at hf
 | mpc ks vs mb us h1 h2 h3 h4 ih=>simp[fI]at hf
 | alm x v u h1=>simp[fI]at hf
 | clo f kk xs us h1 h2 ih=>simp[fI]at hf
theorem wE {h:Nat->Option Row} {blk:Nat->Option (Nat×Nat)} {old:Option Nat} {b:Nat} (hb:Own M (forget h old) blk b):Own M h blk b:=by
 rcases hb with hb|⟨x,r,g,hx,hz,hg,he⟩
 ·exact .inl hb
 ·refine .inr ⟨x,r,g,?_,hz,hg,he⟩
  cases old with
  | none=>exact hx
  | some y =>
   simp only[forget]at hx
   by_cases hxy:x=y
   ·subst hxy;simp[bz]at hx
   ·rwa [au _ _ hxy]at hx
theorem Inv.fresh (hI:Inv N M L w0 blk V t h a w) {w':World} {v:Value} {d ty s n:Nat} {cells:List D} {old dst:Option Nat} (hd:dst=some d) (hV:gR N V d e)
  (hb:dJ (fun b=>∃y g,old=some y∧blk y=some g∧b=g.1) w w') (hold:∀y,old=some y->∃r,h y=some r∧r.fz=false)
  (hg:(∃(g:Nat×Nat) (c:Nat) (cs:Array Value),v=.slice (some ⟨g.1,g.2,none⟩) n c∧(w.heap.size<=g.1∨∃y g0,old=some y∧blk y=some g0∧g.1=g0.1)∧w'.heap[g.1]? = some (.cells cs ty (0,0))∧n<=c∧c<=maxLen∧c*s+g.2=cs.size∧g.2+cells.length<=cs.size ∧
   ∀(j:Nat) d,cells[j]? = some d->aS d=true∧RP w' (fun b=>Own M (forget h old) blk b∨b=g.1) d (cs.getD (g.2+j) undef))∨(n=0∧cells=[]∧∃A,v=.slice A 0 0)) :
  ∃blk',Inv N M L w0 blk' (fun x k=>V x k∨(dst=some x∧k=e)) t (bz (forget h old) d (some ⟨e,ty,cells,false,true,false⟩)) a w' ∧
   RT w' (Own M (bz (forget h old) d (some ⟨e,ty,cells,false,true,false⟩)) blk') (bz (forget h old) d (some ⟨e,ty,cells,false,true,false⟩)) blk' (fun x k=>V x k∨(dst=some x∧k=e)) (.buf d e s 0 n) v:=by
 have hW:∀ {blk':Nat->Option (Nat×Nat)},Inv N M L w0 blk' (fun x k=>V x k∨(x=d∧k=e)) t (bz (forget h old) d (some ⟨e,ty,cells,false,true,false⟩)) a w'->Inv N M L w0 blk' (fun x k=>V x k∨(dst=some x∧k=e)) t (bz (forget h old) d (some ⟨e,ty,cells,false,true,false⟩)) a w':=fun hJ=>hJ.weaken fun x k hx=>by
  rcases hx with hx|⟨rfl,rfl⟩
  ·exact .inl hx
  ·exact .inr ⟨hd,rfl⟩
 rcases hg with⟨g,c,cs,rfl,g1,g2,g3,g4,g5,g6,g7⟩|⟨rfl,rfl,A,rfl⟩
 ·refine⟨bz blk d (some g),hW (hI.PE (old:=old) hb.os hb.tape hb.output hb.size (fun k hk hn=>hb.block k hk (fun⟨y,g0,h1,h2,h3⟩=>hn y g0 h1 h2 h3)) hold rfl hV ⟨g1,cs,g2,g6,g7⟩),?_⟩
  exact qw (.inr ⟨hd,rfl⟩) (aq _ _ _) g2 g3 g4 g5
 ·refine⟨bz blk d none,hW (hI.PE (go:=none) (old:=old) hb.os hb.tape hb.output hb.size (fun k hk hn=>hb.block k hk (fun⟨y,g0,h1,h2,h3⟩=>hn y g0 h1 h2 h3)) hold rfl hV rfl),?_⟩
  exact⟨.inr ⟨hd,rfl⟩,fun _ _ _ =>.inr ⟨aq _ _ _,rfl,A,rfl⟩⟩
theorem RP.less {M1 M2:Nat->Prop} {d:D} {u:Value} (hr:RP w M1 d u) (hm:∀b,M2 b->M1 b):RP w M2 d u:=hr.keep fun _ h1 h2=>⟨h1,fun hb=>h2 (hm _ hb),rfl⟩
theorem Inv.BU (hI:Inv N M L w0 blk V t h a w) {ds afq:List D} {fr:List Nat} {vs:Array Value} {M':Nat->Prop} (hca:Am.bm h ds=some (afq,fr)) (hl:mE M h blk fr M') (hsz:vs.size=ds.length)
  (hr:∀(j:Nat) d,ds[j]? = some d->RT w (Own M h blk) h blk V d (vs.getD j undef)):wQ w M' afq vs:=by
 obtain⟨i1,i2⟩:=hI.bm (us:=vs.toList) hca hl (by simpa using hsz) (fun j d hj=>by have:=hr j d hj;simpa [List.getD] using this)
 refine⟨by simpa using i1,fun j d hj =>?_,fun b hb=>(hI.tab b hb).less hl.le⟩
 have:=i2 j d hj
 simpa [List.getD] using this
theorem K2 (hΓ:bA P Γ) (hI:Inv N M L w0 blk V t h a w) {g:Nat} {dst:Option Nat} {E:bt} {ds:List D} {vs:Array Value} (hE:sD Γ h e dst g ds=some E) (hV:∀d,dst=some d->gR N V d e) (hsz:vs.size=ds.length)
  (hr:∀(j:Nat) d,ds[j]? = some d->RT w (Own M h blk) h blk V d (vs.getD j undef)):dy P g∧Calls P g vs w fun e' w'=>∃v,e'=.returned v∧aV N M L w0 V t h a e dst E v w':=by
 unfold sD at hE
 split at hE
 ·rename_i afq fr hca
  split at hE
  ·rename_i r out hs
   simp only[afE]at hE
   subst hE
   obtain⟨hcalls,hcl⟩:=hΓ.calls g none afq _ _ hs
   refine⟨hcl,?_⟩
   by_cases hflat:fI r=true
   ·refine (hcalls w _ vs (fun b hb=>hI.wF hb.1) (hI.BU hca (hI.Hw fr) hsz hr)).mono fun e' w' hg =>?_
    obtain⟨v,he,hb,hv⟩:=hg
    refine⟨v,he,?_⟩
    rw[if_pos hflat]
    exact aV.de (hI.later hb) (bo (RP.flat hv hflat))
   ·have hIf:=hI.freeze fr
    refine (hcalls w _ vs (fun b hb=>hIf.wF hb) (hI.BU hca (hI.eO fr) hsz hr)).mono fun e' w' hg =>?_
    obtain⟨v,he,hb,hv⟩:=hg
    refine⟨v,he,?_⟩
    rw[if_neg hflat]
    exact⟨blk,(hIf.later hb).weaken fun _ _ h =>.inl h,bo hv⟩
  ·rename_i ty s n cells out hs
   split at hE
   ·rename_i d
    split at hE
    ·rename_i hfr
     simp only[afE]at hE
     subst hE
     obtain⟨hcalls,hcl⟩:=hΓ.calls g none afq _ _ hs
     refine⟨hcl,?_⟩
     by_cases hflat:nQ cells=true
     ·refine (hcalls w _ vs (fun b hb=>hI.wF hb.1) (hI.BU hca (hI.Hw fr) hsz hr)).mono fun e' w' hg =>?_
      obtain⟨v,he,hb,hv⟩:=hg
      refine⟨v,he,?_⟩
      rw[if_pos hflat]
      exact hI.fresh (old:=none) rfl (hV d rfl) (dJ.xS hb) (fun y hy=>by cases hy) (by
       rcases hv with⟨g,c,cs,h1,h2,h3,h4,h5,h6,h7,h8⟩|hv
       ·exact .inl ⟨g,c,cs,h1,.inl (h2.resolve_right id),h3,h4,h5,h6,h7,fun j x hj=>⟨(h8 j x hj).1,(h8 j x hj).2.flat (uj hflat x (afX hj))⟩⟩
       ·exact .inr hv)
     ·have hIf:=hI.freeze fr
      refine (hcalls w _ vs (fun b hb=>hIf.wF hb) (hI.BU hca (hI.eO fr) hsz hr)).mono fun e' w' hg =>?_
      obtain⟨v,he,hb,hv⟩:=hg
      refine⟨v,he,?_⟩
      rw[if_neg hflat]
      have:=hIf.fresh (e:=e) (ty:=ty) (s:=s) (cells:=cells) (n:=n) (v:=v) (old:=none) (dst:=some d) rfl (hV d rfl) (dJ.xS hb) (fun y hy=>by cases hy) (by
       rcases hv with⟨g,c,cs,h1,h2,h3,h4,h5,h6,h7,h8⟩|hv
       ·exact .inl ⟨g,c,cs,h1,.inl (h2.resolve_right id),h3,h4,h5,h6,h7,h8⟩
       ·exact .inr hv)
      unfold aV
      rw[fA]
      exact this
    ·cases hE
   ·cases hE
  ·cases hE
 ·cases hE
theorem Inv.abn (hI:Inv N M L w0 blk V t h a w) {x v:Nat} {r:Row} (hl:live h x v=some r) {u:Value} : (∀s o n,RT w (Own M h blk) h blk V (.buf x v s o n) u->zu w (blk x) (.buf 0 0 s o n) u)∧(∀o,RT w (Own M h blk) h blk V (.ptr x v o) u->zu w (blk x) (.ptr 0 0 o) u):=by
 obtain⟨hx,hv⟩:=bU hl
 exact⟨fun s o n hr=>⟨trivial,fun r' _ _=>hr.2 r hx hv⟩,fun o hr=>⟨trivial,fun r' _ _=>hr.2 r hx hv⟩⟩
theorem Inv.XT (hI:Inv N M L w0 blk V t h a w) {x v:Nat} {r:Row} (hl:wz h x v=some r) {u:Value} (hr:RT w (Own M h blk) h blk V (.mp x v) u):zu w (blk x) (.mp 0 0) u:=by
 obtain⟨hx,hv,_⟩:=Ak hl
 exact⟨trivial,fun r' _ _=>hr.2 r hx hv⟩
theorem Qw {d0:D} {x v:Nat} {r:Row} (hl:xF d0 h x v=some r):(h x=some r∧r.v=v)∧pO r=true:=by
 unfold xF at hl
 split at hl
 ·obtain⟨h1,h2,_,h3⟩:=Ak hl
  exact⟨⟨h1,h2⟩,h3⟩
 ·exact⟨bU hl,rf (fW hl)⟩
theorem B8 (hΓ : bA P Γ) (hI : Inv N M L w0 blk V t h a w) {g x v : Nat} {d0 : D} {dst : Option Nat} {E : bt} {ds : List D} {u0 : Value} {vs : Array Value} (hE : nF Γ h e dst g x v d0 ds = some E) (hV : ∀ d, dst = some d -> gR N V d e) (hVx : V x v)
    (h0 : ∀ r, xF d0 h x v = some r -> zu w (blk x) d0 u0) (hsz : vs.size = ds.length) (hr : ∀ (j : Nat) d, ds[j]? = some d -> RT w (Own M h blk) h blk V d (vs.getD j undef)) :
    dy P g ∧ Calls P g (#[u0] ++ vs) w fun e' w' => ∃ v, e' = .returned v ∧ aV N M L w0 V t h a e dst E v w' := by
  unfold nF at hE
  split at hE
  · rename_i r hl
    obtain ⟨⟨hx, hv⟩, hmR⟩ := Qw hl
    split at hE
    · rename_i hz
      split at hE
      · rename_i afq fr hca
        split at hE
        · rename_i hfr
          have hIf := hI.freeze fr
          have hxf : aH h (gG h fr) x = some r := by rw [yX hfr]; exact hx
          have hgo : ∀ b, sf (blk x) b -> Own M (aH h (gG h fr)) blk b := fun b ⟨g0, hg0, he⟩ => .inr ⟨x, r, g0, hxf, hz, hg0, he.symm⟩
          have hle : ∀ b, ((Own M (aH h (gG h fr)) blk b ∧ ¬ sf (blk x) b) ∨ sf (blk x) b) -> Own M (aH h (gG h fr)) blk b := fun b hb => hb.elim (·.1) (hgo b)
          have hargs := hI.BU hca (hI.eO fr) hsz hr
          have hargs' : wQ w (fun b => (Own M (aH h (gG h fr)) blk b ∧ ¬ sf (blk x) b) ∨ sf (blk x) b) afq vs := ⟨hargs.1, fun j d hj => (hargs.2 j d hj).less hle, fun b hb => (hargs.tab b hb).less hle⟩
          have hrow : RW w (fun b => (Own M (aH h (gG h fr)) blk b ∧ ¬ sf (blk x) b) ∨ sf (blk x) b) (blk x) { r with v := 0 } := by
            have := (hIf.rows x r hxf).2
            cases hg : blk x with
            | none => rw [hg] at this; exact this
            | some g0 =>
              rw [hg] at this hle
              exact du.keep (r' := { r with v := 0 }) this.2 rfl rfl rfl rfl (fun b h1 h2 => ⟨h1, fun hb => h2 (hle b hb), rfl⟩)
          have hown : ∀ (r2 : Option Row) b, Own M (bz (aH h (gG h fr)) x r2) blk b -> (Own M (aH h (gG h fr)) blk b ∧ ¬ sf (blk x) b) ∨ sf (blk x) b := by
            intro r2 b hb
            by_cases hi : sf (blk x) b
            · exact .inr hi
            · refine .inl ⟨?_, hi⟩
              rcases hb with hb | ⟨y, s, g0, hy, hz', hg0, he⟩
              · exact .inl hb
              · by_cases hyx : y = x
                · subst hyx; exact absurd ⟨g0, hg0, he.symm⟩ hi
                · rw [au _ _ hyx] at hy
                  exact .inr ⟨y, s, g0, hy, hz', hg0, he⟩
          have key : ∀ {rk : RK} {out : Option Row}, Γ.sem g (some (d0, { r with v := 0 })) afq = some (rk, out) -> dy P g ∧ Calls P g (#[u0] ++ vs) w fun e' w' => ∃ u, e' = .returned u ∧ dJ (sf (blk x)) w w' ∧
              (∀ r1, out = some r1 -> Inv N M L w0 blk V t (bz (aH h (gG h fr)) x (some { r1 with v := v })) a w' ∧ r1.ty = r.ty) ∧
              (match rk with
               | .same s o n => zu w' (blk x) (.buf 0 0 s o n) u
               | .clean d => RP w' (fun b => (Own M (aH h (gG h fr)) blk b ∧ ¬ sf (blk x) b) ∨ sf (blk x) b) d u
               | .fresh ty s n cells => ss w w' (fun b => Own M (aH h (gG h fr)) blk b ∧ ¬ sf (blk x) b) (sf (blk x)) u (.fresh ty s n cells)) := by
            intro rk out hs
            obtain ⟨hcalls, hcl⟩ := hΓ.calls g _ afq _ _ hs
            refine ⟨hcl, ?_⟩
            refine (hcalls w (fun b => Own M (aH h (gG h fr)) blk b ∧ ¬ sf (blk x) b) (blk x) u0 vs (fun b hb => hIf.wF hb.1) (fun b hb hb' => hb'.2 hb) hz (by simpa [pO] using hmR) hrow (h0 r hl) hargs').mono fun e' w' hg => ?_
            obtain ⟨u, he, hb, ho, hk⟩ := hg
            refine ⟨u, he, hb, fun r1 hr1 => ?_, hk⟩
            subst hr1
            obtain ⟨o1, o2, ⟨omp, omr⟩, o3, o4⟩ := ho
            refine ⟨?_, o1⟩
            have := hIf.iH (r0 := { r1 with v := v }) (w' := w') hxf hz hv.symm hb.os hb.tape hb.output hb.size (fun b hb1 hb2 => hb.block b hb1 (fun ⟨g0, hg0, he⟩ => hb2 g0 hg0 he)) (by
              cases hg : blk x with
              | none => rw [hg] at o4; exact o4
              | some g0 =>
                rw [hg] at o3 o4
                refine ⟨o3 g0 rfl, du.keep (r' := { r1 with v := v }) o4 rfl rfl rfl rfl (fun b h1 h2 => ⟨h1, fun hb => h2 ?_, rfl⟩)⟩
                by_cases hi : sf (some g0) b
                · exact .inr hi
                · exact .inl ⟨hb, hi⟩) (fun h => by rw [show ({ r1 with v := v } : Row).fz = r1.fz from rfl, o2] at h; cases h) (fun hm g0 _ j x' s n hj => by
                  obtain ⟨ks, vs', hc⟩ := xH omr hm
                  rw [show ({ r1 with v := v } : Row).cells = r1.cells from rfl, hc] at hj
                  cases j <;> simp at hj)
            exact this
          split at hE
          · rename_i c r1 hs
            simp only [afE] at hE
            subst hE
            obtain ⟨hcl, hcalls⟩ := key hs
            refine ⟨hcl, hcalls.mono fun e' w' hg => ?_⟩
            obtain ⟨u, he, hb, ho, hk⟩ := hg
            refine ⟨u, he, blk, ?_, ?_⟩
            · rw [fA]; exact (ho r1 rfl).1.weaken fun _ _ h => .inl h
            · rw [fA]; exact bo (RP.less hk (hown _))
          · rename_i s o' n r1 hs
            simp only [afE] at hE
            subst hE
            obtain ⟨hcl, hcalls⟩ := key hs
            refine ⟨hcl, hcalls.mono fun e' w' hg => ?_⟩
            obtain ⟨u, he, hb, ho, hk⟩ := hg
            refine ⟨u, he, blk, ?_, ?_⟩
            · rw [fA]; exact (ho r1 rfl).1.weaken fun _ _ h => .inl h
            · rw [fA]
              exact ⟨.inl hVx, fun r' _ _ => hk.2 ⟨0, 0, [], false, false, false⟩ rfl rfl⟩
          · rename_i ty s n cells hs
            split at hE
            · rename_i d
              split at hE
              · rename_i hd
                simp only [afE] at hE
                subst hE
                obtain ⟨hcl, hcalls⟩ := key hs
                refine ⟨hcl, hcalls.mono fun e' w' hg => ?_⟩
                obtain ⟨u, he, hb, _, hk⟩ := hg
                refine ⟨u, he, ?_⟩
                have := hIf.fresh (e := e) (ty := ty) (s := s) (cells := cells) (n := n) (v := u) (old := some x) (dst := some d) rfl (hV d rfl) (w' := w') ⟨hb.os, hb.tape, hb.output, hb.size, fun k hk hn => hb.block k hk (fun ⟨g0, hg0, he⟩ => hn ⟨x, g0, rfl, hg0, he⟩)⟩ (fun y hy => by cases hy; exact ⟨r, hxf, hz⟩) (by
                  rcases hk with ⟨g, c, cs, h1, h2, h3, h4, h5, h6, h7, h8⟩ | hv
                  · refine .inl ⟨g, c, cs, h1, h2.imp id (fun ⟨g0, hg0, he⟩ => ⟨x, g0, rfl, hg0, he⟩), h3, h4, h5, h6, h7, fun j y hj => ⟨(h8 j y hj).1, ?_⟩⟩
                    refine (h8 j y hj).2.less fun b hb => ?_
                    rcases hb with hb | hb
                    · refine .inl ⟨?_, ?_⟩
                      · rcases hb with hb | ⟨z, s', g0, hz1, hz2, hz3, hz4⟩
                        · exact .inl hb
                        · simp only [forget] at hz1
                          by_cases hzx : z = x
                          · subst hzx; simp [bz] at hz1
                          · rw [au _ _ hzx] at hz1
                            exact .inr ⟨z, s', g0, hz1, hz2, hz3, hz4⟩
                      · rintro ⟨g1, hg1, he1⟩
                        rcases hb with hb | ⟨z, s', g0, hz1, hz2, hz3, hz4⟩
                        · rw [he1] at hb
                          exact hIf.notM hxf hg1 hb
                        · simp only [forget] at hz1
                          by_cases hzx : z = x
                          · subst hzx; simp [bz] at hz1
                          · rw [au _ _ hzx] at hz1
                            exact hzx (hIf.inj z x s' r g0 g1 hz1 hxf hz3 hg1 (hz4.trans he1))
                    · exact .inr hb
                  · exact .inr hv)
                unfold aV
                have e1 : gG h fr ++ [(x, none), (d, some ⟨e, ty, cells, false, true, false⟩)] = (gG h fr ++ [(x, none)]) ++ [(d, some ⟨e, ty, cells, false, true, false⟩)] := by simp
                rw [e1, fA, fA]
                exact this
              · cases hE
            · cases hE
          · cases hE
        · cases hE
      · cases hE
    · cases hE
  · cases hE
inductive lj (Q:D->Value->Prop):List D->List Value->Prop
 | nil:lj Q [] []
 | cons {d:D} {u:Value} {ds:List D} {us:List Value} (h:Q d u) (hs:lj Q ds us):lj Q (d::ds) (u::us)
theorem lj.length {Q:D->Value->Prop} {ds:List D} {us:List Value} (h:lj Q ds us):us.length=ds.length:=by
 induction h with
 | nil=>rfl
 | cons h hs ih=>simp[ih]
theorem lj.of {Q:D->Value->Prop} : ∀ {ds:List D} {us:List Value},us.length=ds.length->(∀(j:Nat) d,ds[j]? = some d->Q d (us.getD j undef))->lj Q ds us
 | [],[],_,_ =>.nil
 | [],_::_,h,_=>by simp at h
 | _::_,[],h,_=>by simp at h
 | d::ds,u::us,h,hq =>.cons (by simpa using hq 0 d rfl) (lj.of (by simpa using h) fun j x hj=>by simpa using hq (j+1) x (by simpa using hj))
theorem lj.at_ {Q:D->Value->Prop} {ds:List D} {us:List Value} (h:lj Q ds us):∀(j:Nat) d,ds[j]? = some d->∃u,us[j]? = some u∧Q d u:=by
 induction h with
 | nil=>intro j d hj;simp at hj
 | cons h hs ih =>
  intro j d hj
  cases j with
  | zero=>simp only[List.getElem?_cons_zero,afE]at hj;subst hj;exact⟨_,rfl,h⟩
  | succ j=>simp only[List.getElem?_cons_succ]at hj ⊢;exact ih j d hj
theorem lj.append {Q:D->Value->Prop} {ds ds':List D} {us us':List Value} (h:lj Q ds us) (h':lj Q ds' us'):lj Q (ds++ds') (us++us'):=by
 induction h with
 | nil=>exact h'
 | cons h hs ih=>exact .cons h ih
theorem lj.take {Q:D->Value->Prop} {ds:List D} {us:List Value} (h:lj Q ds us):∀n:Nat,lj Q (ds.take n) (us.take n):=by
 induction h with
 | nil=>intro n;simp;exact .nil
 | cons h hs ih =>
  intro n
  cases n with
  | zero=>exact .nil
  | succ n=>exact .cons h (ih n)
theorem lj.drop {Q:D->Value->Prop} {ds:List D} {us:List Value} (h:lj Q ds us):∀n:Nat,lj Q (ds.drop n) (us.drop n):=by
 induction h with
 | nil=>intro n;simp;exact .nil
 | cons h hs ih =>
  intro n
  cases n with
  | zero=>exact .cons h hs
  | succ n=>exact ih n
theorem lj.mono {Q Q':D->Value->Prop} {ds:List D} {us:List Value} (h:lj Q ds us) (hq:∀d u,Q d u->Q' d u):lj Q' ds us:=by
 induction h with
 | nil=>exact .nil
 | cons h hs ih=>exact .cons (hq _ _ h) ih
theorem Inv.adD (hI:Inv N M L w0 blk V t h a w) {x v s n:Nat} {r:Row} {u:Value} (hl:live h x v=some r) (hr:RT w (Own M h blk) h blk V (.buf x v s 0 n) u) :
  ∃cs,Wh w r.ty s (blk x) u n cs∧lj (fun d u=>aS d=true∧RP w (Own M h blk) d u) r.cells cs:=by
 obtain⟨hx,hv⟩:=bU hl
 rcases hr.2 r hx hv with⟨g,o',c,N',ty,k0,rfl,k2,k3,k4,k5⟩|⟨k0,rfl,A,rfl⟩
 ·obtain⟨arr,h1,h2,h3⟩:=hI.Dt hx k0 (fW hl)
  obtain⟨k6,k7⟩:=k2 (.inr rfl)
  have hN:N'=arr.size:=by
   simp only[World.shape?,h1,afE,Prod.mk.injEq]at k5
   exact k5.2.symm
  rw[af4]at k6
  subst k6
  refine⟨(List.range r.cells.length).map fun j=>arr.getD (g.2+j) undef,.inl ⟨g,c,arr,k0,rfl,h1,by omega,k3,k4,fun j y hj =>?_⟩,lj.of (by simp) fun j d hj =>?_⟩
  ·rw[afs,aft]at hj
   obtain⟨i,hi,rfl⟩:=hj
   have hlt:=(afY.1 hi).1
   rw[List.getElem?_range (by simpa using hlt)]at hi
   cases hi
   simp only[af0]at hlt
   rw[afA,agG (show g.2+j<arr.size by omega)]
   rfl
  ·have hlt:=(afY.1 hj).1
   have:=h3 j d hj
   simpa [List.getD,hlt] using this
 ·have:=(hI.rows x r hx).2
  rw[k0]at this
  have hc:r.cells=[]:=this
  exact⟨[],.inr ⟨k0,rfl,rfl,A,rfl⟩,by rw[hc];exact .nil⟩
theorem WK {g:Nat} {p:Nat×Nat×Nat} (hins:abJ P g p) (hI:Inv N M L w0 blk V t h a w) {dst:Option Nat} {E:bt} {ds:List D} {vs:Array Value} (hE:rP h e dst p ds=some E) (hV:∀d,dst=some d->gR N V d e) (hsz:vs.size=ds.length)
  (hr:∀(j:Nat) d,ds[j]? = some d->RT w (Own M h blk) h blk V d (vs.getD j undef)):dy P g∧Calls P g vs w fun e' w'=>∃v,e'=.returned v∧aV N M L w0 V t h a e dst E v w':=by
 refine⟨hins.callable,?_⟩
 unfold rP at hE
 split at hE<;>try (cases hE;done)
 rename_i x v s o n i y v' s' o' m
 split at hE<;>try (cases hE;done)
 rename_i r r' d hl hl'
 split at hE<;>try (cases hE;done)
 rename_i hc
 obtain⟨hz,hz',hlst,hlst',hxy,rfl,rfl,hty,hty',rfl,rfl,hlen,hlen',hi0,hi1,hm0,hmax⟩:=hc
 simp only[afE]at hE
 subst hE
 obtain⟨hx,hv⟩:=bU hl
 obtain⟨hy,hv'⟩:=bU hl'
 have hvs:vs = #[vs.getD 0 undef,vs.getD 1 undef,vs.getD 2 undef]:=by
  simp only[List.length_cons,List.length_nil]at hsz
  apply Array.ext
  ·simp[hsz]
  ·intro j h1 h2
   have:j=0∨j=1∨j=2:=by omega
   rcases this with rfl|rfl|rfl<;>simp[agG h1]
 have h0:=hr 0 _ rfl
 have h1:=ky (hr 1 _ rfl)
 have h2:=hr 2 _ rfl
 obtain⟨cs,a1,a2⟩:=hI.adD hl h0
 obtain⟨cs',b1,b2⟩:=hI.adD hl' h2
 rw[hty]at a1
 rw[hty']at b1
 have hone:∀ {ds:List D} {us:List Value},lj (fun d u=>aS d=true∧RP w (Own M h blk) d u) ds us->∀u∈us,u.oneCell'=true:=by
  intro ds us hR
  induction hR with
  | nil=>intro u hu;simp at hu
  | cons h hs ih =>
   intro u hu
   rcases afC.1 hu with rfl|hu
   ·exact h.2.oW h.1
   ·exact ih u hu
 rw[hvs,h1,show i=((i.toNat:Nat):Int) by omega]
 refine (hins.calls w (blk x) (blk y) _ _ i.toNat n m cs cs' a1 b1 (fun g g' hg hg' he=>hxy (hI.inj x y r r' g g' hx hy hg hg' he)) (by rw[a2.length,hlen]) (by rw[b2.length,hlen']) (hone a2) (hone b2) (by omega) hm0 hmax).mono fun e' w' hg =>?_
 obtain⟨u,he,hb,g,c,arr,rfl,g1,g2,g3,g4,g5,g6⟩:=hg
 refine⟨_,he,?_⟩
 have hId:=hI.drop y
 have hxd:bz h y none x=some r:=by rw[au _ _ hxy];exact hx
 have hRel:lj (fun d u=>aS d=true∧RP w (Own M h blk) d u) (r.cells.take (i.toNat*p.2.1)++(r'.cells++r.cells.drop (i.toNat*p.2.1))) (cs.take (i.toNat*p.2.1)++(cs'++cs.drop (i.toNat*p.2.1))):=(a2.take _).append (b2.append (a2.drop _))
 have hown:∀b,Own M (forget (bz h y none) (some x)) blk b->Own M h blk b:=by
  intro b hb
  rcases wE hb with hb|⟨z,q,g0,hz1,hz2,hz3,hz4⟩
  ·exact .inl hb
  ·by_cases hzy:z=y
   ·subst hzy;simp[bz]at hz1
   ·rw[au _ _ hzy]at hz1
    exact .inr ⟨z,q,g0,hz1,hz2,hz3,hz4⟩
 have hin:∀b,sf (blk x) b->Own M h blk b:=fun b ⟨g0,hg0,hb0⟩ =>.inr ⟨x,r,g0,hx,hz,hg0,hb0.symm⟩
 have hfin:=hId.fresh (e:=e) (ty:=p.1) (s:=p.2.1) (cells:=r.cells.take (i.toNat*p.2.1)++(r'.cells++r.cells.drop (i.toNat*p.2.1))) (n:=n+m) (v := .slice (some ⟨g.1,g.2,none⟩) (n+m) c) (old:=some x) (dst:=some d) rfl (hV d rfl) (w':=w')
  ⟨hb.os,hb.tape,hb.output,hb.size,fun k hk hn=>hb.block k hk (fun⟨g0,hg0,he⟩=>hn ⟨x,g0,rfl,hg0,he⟩)⟩ (fun z hz1=>by cases hz1;exact⟨r,hxd,hz⟩)
  (.inl ⟨g,c,arr,rfl,g1.imp id (fun⟨g0,hg0,he⟩=>⟨x,g0,rfl,hg0,he⟩),g2,g3,g4,g5,?_,fun j d' hj =>?_⟩)
 ·unfold aV
  exact hfin
 ·have hpos:=hins.pos
  have e1:(cs.take (i.toNat*p.2.1)++(cs'++cs.drop (i.toNat*p.2.1))).length=(r.cells.take (i.toNat*p.2.1)++(r'.cells++r.cells.drop (i.toNat*p.2.1))).length:=hRel.length
  have e2:(r.cells.take (i.toNat*p.2.1)++(r'.cells++r.cells.drop (i.toNat*p.2.1))).length=(n+m)*p.2.1:=by
   have:=agi p.2.1 (show i.toNat<=n by omega)
   rw[agF,agF,afO,afP,hlen,hlen',agI this,agJ]
   omega
  rw[e2]
  have:=agi p.2.1 g3
  omega
 ·obtain⟨u,hu,hq1,hq2⟩:=hRel.at_ j d' hj
  have hau:=g6 j u hu
  refine⟨hq1,?_⟩
  rw[afA,hau]
  refine hq2.keep fun b q1 q2=>⟨afy q1 hb.size,?_,hb.block b q1 (fun hn=>q2 (hin b hn))⟩
  rintro (hn|rfl)
  ·exact q2 (hown b hn)
  ·rcases g1 with g1|g1
   ·omega
   ·exact q2 (hin _ g1)
theorem WI {g:Nat} {p:Grow} (hgr:Wa P g p) (hI:Inv N M L w0 blk V t h a w) (hP:∀x v,V x v->x<N∨2*PK<=x) {dst:Option Nat} {E:bt} {ds:List D} {vs:Array Value} (hE:rO h p ds=some E) (hsz:vs.size=ds.length)
  (hr:∀(j:Nat) d,ds[j]? = some d->RT w (Own M h blk) h blk V d (vs.getD j undef)):dy P g∧Calls P g vs w fun e' w'=>∃v,e'=.returned v∧aV N M L w0 V t h a e dst E v w':=by
 refine⟨hgr.callable,?_⟩
 unfold rO at hE
 split at hE<;>try (cases hE;done)
 rename_i y v k rest
 split at hE<;>try (cases hE;done)
 rename_i ry k' s n r hlp hk
 split at hE<;>try (cases hE;done)
 rename_i hcond
 obtain⟨rfl,hkp,hyPK,hryf,hrm,hrf,hrl,rfl,hrt,hlen,hmax⟩:=hcond
 split at hE<;>try (cases hE;done)
 rename_i cs hsem
 simp only[afE]at hE
 subst hE
 obtain⟨hy,hv,hmp,hcs⟩:=wA hlp
 obtain⟨f1,f2,f3,f4⟩:=hgr.flat _ _ _ hsem
 have h0:=hr 0 _ rfl
 obtain⟨gy,hgy,hu0⟩:=h0.2 ry hy hv
 have hri:=hI.rowIs hy hgy
 unfold du at hri
 rw[hmp]at hri
 rcases hri with⟨_,_,hcc,_⟩|⟨_,ya,y1,y2,_⟩
 ·rw[hcs]at hcc;cases hcc
 replace y2:gy.2<ya.size:=by rw[hcs]at y2;simp at y2;omega
 obtain⟨_,u,hcell,hph⟩:=hI.pha y ry gy hy hmp hgy 0 _ _ _ (by rw[hcs];rfl)
 rw[af4]at hcell
 have hyN:y<N:=by have:=hP _ _ h0.1;omega
 have hyu:ya[gy.2]? = some u:=by
  rw[aK y1 y2]at hcell
  rw[afE,afA,agG y2]at hcell
  rw[agG y2,<- hcell]
  rfl
 have hbig:=hI.big
 have hpk:PK=1000000:=rfl
 have hyk:y≠k':=by omega
 have hsl:Wh w p.ty p.k (blk k') u n (r.cells.map Kv):=by
  rcases hph r hk with⟨g',c,N',ty',g0,rfl,g2,g3,g4,g5⟩|⟨g0,rfl,A,rfl⟩
  ·obtain⟨arr,k1,k2,k3⟩:=hI.Dt hk g0 hrm
   rw[hrt]at k1
   refine .inl ⟨g',c,arr,g0,rfl,k1,?_,g3,g4,fun j x hj =>?_⟩
   ·simp only[World.shape?,k1,afE,Prod.mk.injEq]at g5
    omega
   ·rw[afs,aft]at hj
    obtain⟨d,hj,rfl⟩:=hj
    have hlt:=(afY.1 hj).1
    have:=Hf (f1 d (afX hj)) (k3 j d hj).2
    rw[agG (by omega),<- this,afA,agG (by omega)]
    rfl
  ·have:=(hI.rows k' r hk).2
   rw[g0]at this
   have hc:r.cells=[]:=this
   exact .inr ⟨g0,rfl,by rw[hc];rfl,A,rfl⟩
 have hgne:∀g,blk k'=some g->g.1≠gy.1:=fun g hg he=>hyk (hI.inj y k' ry r gy g hy hk hgy hg he.symm)
 have hvs:vs = #[.pointer (some ⟨gy.1,gy.2,none⟩)]++(rest.map aaN).toArray:=by
  apply Array.ext
  ·simp at hsz ⊢;omega
  ·intro j h1 h2
   cases j with
   | zero =>
    simp only[afA,agG h1,Option.getD_some,Nat.add_zero]at hu0
    simp[hu0]
   | succ j =>
    have hj:j<rest.length:=by simp at hsz;omega
    have hd:=hr (j+1) _ (by rw[agD];exact afI hj)
    have hfl:=f2 _ (afH hj)
    have hrp:RP w (Own M h blk) rest[j] (vs.getD (j+1) undef):=by
     revert hd hfl
     generalize rest[j]=d
     intro hd hfl
     cases d<;>first|exact hd|cases hfl
    have:=UQ hfl hrp
    simp only[afA,agG h1,Option.getD_some]at this
    rw[this]
    simp[agK]
 rw[hvs]
 refine (hgr.calls w gy ya ry.ty (blk k') u n r.cells rest cs y1 hyu hsl hgne hlen hsem hmax).mono fun e' w' hpost =>?_
 obtain⟨he,hb,g,c,arr,q1,q2,q3,q4,q5,q6,q7⟩:=hpost
 refine⟨_,he,bz blk k' (some g),?_,RP.int _ _⟩
 have hV0:∀v,¬V k' v:=fun v hv=>by have:=hP _ _ hv;omega
 generalize hnu:Value.slice (some ⟨g.1,g.2,none⟩) (n+1) c=nu at q2
 have hw1:(w.setRow gy.1 (ya.setIfInBounds gy.2 nu)).heap[gy.1]? = some (.cells (ya.setIfInBounds gy.2 nu) ry.ty (0,0)):=setRow_heap w gy.1 ya _ ry.ty (0,0) y1
 have hhs:(w.setRow gy.1 (ya.setIfInBounds gy.2 nu)).heap.size=w.heap.size:=by simp[World.setRow]
 have hheap:∀b,b≠gy.1->(w.setRow gy.1 (ya.setIfInBounds gy.2 nu)).heap[b]? = w.heap[b]?:=by
  intro b hb
  simp only[World.setRow,afF]
  rw[if_neg (Ne.symm hb)]
 have hI0:=hI.iH (r0:=⟨ry.v,ry.ty,[],false,false,false⟩) (w':=w.setRow gy.1 (ya.setIfInBounds gy.2 nu)) hy hryf rfl rfl rfl rfl (by rw[hhs];exact afv _) (fun b _ hb=>hheap b (hb gy hgy)) (by
  rw[hgy]
  exact⟨by simp[World.shape?,hw1,y1],_,hw1,by simp;omega,fun j d hj=>by simp at hj⟩) (fun h=>by cases h)
 have hk0:bz h y (some (⟨ry.v,ry.ty,[],false,false,false⟩:Row)) k'=some r:=by rw[au _ _ (Ne.symm hyk)];exact hk
 have hA:=hI0.Wm (w':=w') (h1:=forget (bz h y (some ⟨ry.v,ry.ty,[],false,false,false⟩)) (some k')) (old:=some k') (d:=k') (r0:=⟨r.v,p.ty,r.cells++cs,false,true,false⟩) (go:=some g) (y0:=y) hb.os hb.tape hb.output (by rw[hhs];exact hb.size)
  (fun b hlt hn=>by
   by_cases hbg:b=gy.1
   ·subst hbg;rw[q2,hw1]
   ·rw[hheap b hbg]
    refine hb.block b (by rw[hhs]at hlt;exact hlt) ?_
    rintro (hh|⟨g0,hg0,hh⟩)
    ·exact hbg hh
    ·exact hn k' g0 rfl hg0 hh) (fun y' hy'=>by cases hy';exact⟨r,hk0,hrf⟩) rfl hkp hyN hV0
  (fun r' hr'=>by
   simp only[forget]at hr'
   rw[au _ _ hyk,aq]at hr'
   cases hr'
   rfl) (by
  refine⟨q1.imp (fun hh=>by rw[hhs];exact hh) (fun⟨g0,hg0,hh⟩=>⟨k',g0,rfl,hg0,hh⟩),arr,q3,?_,fun j d hj =>?_⟩
  ·simp only[agF,f4,hlen]
   have:=agi p.k q4
   rw[agJ]at this
   omega
  ·have hfd:Ae d=true:=by
    rcases agL.1 (afX hj) with hm|hm
    ·exact f1 d hm
    ·exact f3 d hm
   have hx:=q7 j (Kv d) (by rw[afs];simp only at hj;rw[hj];rfl)
   have:arr.getD (g.2+j) undef=Kv d:=by rw[afA,hx];rfl
   rw[this]
   exact Xu hfd) rfl
 have hyB:bz (forget (bz h y (some (⟨ry.v,ry.ty,[],false,false,false⟩:Row))) (some k')) k' (some (⟨r.v,p.ty,r.cells++cs,false,true,false⟩:Row)) y=some ⟨ry.v,ry.ty,[],false,false,false⟩:=by
  rw[au _ _ hyk]
  simp only[forget]
  rw[au _ _ hyk,aq]
 have hgB:bz blk k' (some g) y=some gy:=by rw[au _ _ hyk,hgy]
 have hsz2:gy.2<(ya.setIfInBounds gy.2 nu).size:=by simpa using y2
 have hB:=hA.iH (r0:=⟨ry.v,ry.ty,[.ph k' p.k (n+1)],false,false,true⟩) (w':=w') hyB rfl rfl rfl rfl rfl (afv _) (fun b _ _=>rfl) (by
  rw[hgB]
  refine⟨rfl,.inr ⟨fun d hd=>by simp only[afS]at hd;subst hd;rfl,_,q2,by simp only[List.length_singleton];omega,fun j d hj =>?_⟩⟩
  cases j with
  | zero=>simp only[List.getElem?_cons_zero,afE]at hj;subst hj;trivial
  | succ j=>simp at hj) (fun h=>by cases h) (fun _ g' hg' j x' s' n' hc=>by
  rw[hgB]at hg'
  cases hg'
  cases j with
  | succ j=>simp at hc
  | zero =>
  simp only[List.getElem?_cons_zero,afE,D.ph.injEq]at hc
  obtain⟨rfl,rfl,rfl⟩:=hc
  rw[af4]
  refine⟨⟨hyPK,.inl hkp⟩,nu,?_,fun r' _ =>.inl ⟨g,c,arr.size,p.ty,aq _ _ _,hnu.symm,q6,q4,q5,by simp[World.shape?,q3]⟩⟩
  rw[aK q2 hsz2]
  simp[afA,y2])
 have heq:aH h [(k',some (⟨r.v,p.ty,r.cells++cs,false,true,false⟩:Row)),(y,some ⟨ry.v,ry.ty,[.ph k' p.k (n+1)],false,false,true⟩)]=bz (bz (forget (bz h y (some (⟨ry.v,ry.ty,[],false,false,false⟩:Row))) (some k')) k' (some (⟨r.v,p.ty,r.cells++cs,false,true,false⟩:Row))) y (some ⟨ry.v,ry.ty,[.ph k' p.k (n+1)],false,false,true⟩):=by
  funext z
  simp only[aH,forget,bz]
  by_cases hzy:z=y
  ·rw[if_pos hzy,if_pos hzy]
  ·rw[if_neg hzy,if_neg hzy]
   by_cases hzk:z=k'
   ·rw[if_pos hzk,if_pos hzk]
   ·rw[if_neg hzk,if_neg hzk,if_neg hzk,if_neg hzy]
 show Inv _ _ _ _ _ _ _ (aH h _) _ _
 rw[heq]
 exact hB.weaken fun _ _ h =>.inl h
theorem UE (hΓ:bA P Γ) (hI:Inv N M L w0 blk V t h a w) {c:Call} {f:Operand} {E:bt} (ho:o.op=.call c) (hc:c.callee=.value f) (hV:∀d,o.dst=some d->gR N V d e) (hP:∀x v,V x v->x<N∨2*PK<=x) (hE:gn Γ h e o.dst (ev t f) (c.args.toList.map (ev t))=some E):dz P o a w (aV N M L w0 V t h a e o.dst E):=by
 have hf:=hI.ev f
 have hargs:∀(j:Nat) d,(c.args.toList.map (ev t))[j]? = some d->RT w (Own M h blk) h blk V d ((c.args.map a.eval).getD j undef):=by
  intro j d hj
  rw[afs]at hj
  cases hx:c.args.toList[j]? with
  | none=>simp[hx]at hj
  | some x =>
   simp only[hx,Option.map_some,afE]at hj
   subst hj
   have:(c.args.map a.eval).getD j undef=a.eval x:=by
    have hx':c.args[j]? = some x:=by simpa using hx
    simp[hx']
   rw[this]
   exact hI.ev x
 have hsz:(c.args.map a.eval).size=(c.args.toList.map (ev t)).length:=by simp
 have hrun:∀ {g:Nat} {fs caps:Array Value},a.eval f=.func (.func g) fs caps->dy P g->(execOp a.eval o).run P w=.ok (.enter g (fs++c.args.map a.eval++caps)) w:=by
  intro g fs caps hfv ⟨fn,hfn,hname,hbody⟩
  have hn:¬fn.name = "runtime.NumGoroutine":=by simpa using hname
  have hb:¬fn.body=none:=by
   intro h0
   rw[h0]at hbody
   cases hbody
  simp[execOp,ho,resolve,hc,hfv,Deferred.ofValue,invoke,callFunc,program,Sem.run,hfn,hn,hb]
 generalize c.args.toList.map (ev t)=ds at *
 generalize c.args.map a.eval=vs at *
 generalize ev t f=q at *
 have done:∀ {g:Nat} {fs caps:Array Value} {args:Array Value},a.eval f=.func (.func g) fs caps->args=fs++vs++caps->(dy P g∧Calls P g args w fun e' w'=>∃v,e'=.returned v∧aV N M L w0 V t h a e o.dst E v w')->dz P o a w (aV N M L w0 V t h a e o.dst E) :=
  fun hfv hargs ⟨h1,h2⟩ =>.inr (.inr ⟨_,_,hargs ▸ hrun hfv h1,h2⟩)
 cases q with
 | fn g =>
  have hfv:a.eval f=.func (.func g) #[] #[]:=by
   have hf':RP w (Own M h blk) (.fn g) (a.eval f):=hf
   generalize a.eval f=u at *
   cases hf'
   rfl
  simp only[gn]at hE
  split at hE
  ·rename_i p hp
   exact done hfv (by simp) (WK (hΓ.ins g p hp) hI hE hV hsz hargs)
  split at hE
  ·rename_i p hp
   exact done hfv (by simp) (WI (hΓ.grw g p hp) hI hP hE hsz hargs)
  split at hE
  ·split at hE
   ·rename_i x v s c0 n rest
    have hsz':(vs.extract 1 vs.size).size=rest.length:=by simp at hsz ⊢;omega
    have hvs:vs = #[vs.getD 0 undef]++vs.extract 1 vs.size:=by
     have:0<vs.size:=by simp at hsz;omega
     apply Array.ext
     ·simp;omega
     ·intro i h1 h2
      cases i with
      | zero=>simp[agG this]
      | succ i=>simp[agK];congr 1;omega
    have h0:=hargs 0 _ rfl
    refine done hfv (by simpa using hvs.symm) (B8 hΓ hI hE hV h0.1 (fun r hl=>(hI.abn hl).1 _ _ _ h0) hsz' (fun j d hj =>?_))
    have:=hargs (j+1) d (by simpa using hj)
    have e1:(vs.extract 1 vs.size).getD j undef=vs.getD (j+1) undef:=by
     simp only[afA]
     congr 1
     rw[agM]
     split
     ·congr 1;omega
     ·rename_i hh;rw[agN (by omega)]
    rw[e1];exact this
   ·rename_i x v c0 rest
    have hsz':(vs.extract 1 vs.size).size=rest.length:=by simp at hsz ⊢;omega
    have hvs:vs = #[vs.getD 0 undef]++vs.extract 1 vs.size:=by
     have:0<vs.size:=by simp at hsz;omega
     apply Array.ext
     ·simp;omega
     ·intro i h1 h2
      cases i with
      | zero=>simp[agG this]
      | succ i=>simp[agK];congr 1;omega
    have h0:=hargs 0 _ rfl
    refine done hfv (by simpa using hvs.symm) (B8 hΓ hI hE hV h0.1 (fun r hl=>(hI.abn hl).2 _ h0) hsz' (fun j d hj =>?_))
    have:=hargs (j+1) d (by simpa using hj)
    have e1:(vs.extract 1 vs.size).getD j undef=vs.getD (j+1) undef:=by
     simp only[afA]
     congr 1
     rw[agM]
     split
     ·congr 1;omega
     ·rename_i hh;rw[agN (by omega)]
    rw[e1];exact this
   ·rename_i x v rest
    have hsz':(vs.extract 1 vs.size).size=rest.length:=by simp at hsz ⊢;omega
    have hvs:vs = #[vs.getD 0 undef]++vs.extract 1 vs.size:=by
     have:0<vs.size:=by simp at hsz;omega
     apply Array.ext
     ·simp;omega
     ·intro i h1 h2
      cases i with
      | zero=>simp[agG this]
      | succ i=>simp[agK];congr 1;omega
    have h0:=hargs 0 _ rfl
    refine done hfv (by simpa using hvs.symm) (B8 hΓ hI hE hV h0.1 (fun r hl=>hI.XT hl h0) hsz' (fun j d hj =>?_))
    have:=hargs (j+1) d (by simpa using hj)
    have e1:(vs.extract 1 vs.size).getD j undef=vs.getD (j+1) undef:=by
     simp only[afA]
     congr 1
     rw[agM]
     split
     ·congr 1;omega
     ·rename_i hh;rw[agN (by omega)]
    rw[e1];exact this
   ·cases hE
  ·exact done hfv (by simp) (K2 hΓ hI hE hV hsz hargs)
 | clo g kk caps =>
  obtain⟨us,k1,k2,k3⟩:=hf
  simp only[gn]at hE
  by_cases hok:caps.all im=true
  rotate_left
  ·rw[if_neg hok]at hE;cases hE
  rw[if_pos hok]at hE
  have hus:((us.take kk).toArray++vs++(us.drop kk).toArray).toList=us.take kk++(vs.toList++us.drop kk):=by simp
  have hl1:(us.take kk).length=(caps.take kk).length:=by rw[afO,afO,k2]
  have hsz':vs.toList.length=ds.length:=by simpa using hsz
  refine done k1 rfl (K2 hΓ hI hE hV (by simp[hsz,k2]) (fun j d hj =>?_))
  have hget:((us.take kk).toArray++vs++(us.drop kk).toArray).getD j undef=(us.take kk++(vs.toList++us.drop kk)).getD j undef:=by
   rw[<- hus,afA,af8,agm]
  rw[hget,af8]
  rw[agc]at hj ⊢
  rw[hl1]
  split at hj
  ·rename_i hlt
   rw[if_pos hlt]
   have hj2:j<kk:=by rw[afO]at hlt;omega
   rw[afL,if_pos hj2]at hj ⊢
   have:=BO (k3 _ d hj)
   rwa [af8]at this
  ·rename_i hlt
   rw[if_neg hlt]
   rw[agc]at hj ⊢
   rw[hsz']
   split at hj
   ·rename_i hlt2
    rw[if_pos hlt2]
    have:=hargs _ d hj
    rw[afA]at this
    simpa using this
   ·rename_i hlt2
    rw[if_neg hlt2]
    rw[afM]at hj ⊢
    have:=BO (k3 _ d hj)
    rwa [af8]at this
 | _=>simp[gn]at hE
theorem RT.aeO {d:D} {n:Nat} {u:Value} (hI:Inv N M L w0 blk V t h a w) (hl:xE d=some n) (ha:alive h d=true) (hr:RT w (Own M h blk) h blk V d u) :
  (∀s,d=.str s->u=.string s∧s.size=n)∧((∀s,d ≠ .str s)->∃A c,u=.slice A n c):=by
 cases d with
 | str s =>
  simp only[xE,afE]at hl
  refine⟨fun s' hs =>?_,fun hn=>absurd rfl (hn s)⟩
  cases hs
  exact⟨BQ hr,hl⟩
 | sl nl tight m xs =>
  simp only[xE,afE]at hl
  subst hl
  refine⟨fun s' hs=>(by cases hs),fun _ =>?_⟩
  have hr':RP w (Own M h blk) (.sl nl tight m xs) u:=hr
  cases hr' with
  | sl A c nl tight n xs us h1 h2 h3 h4 h5 h6 h7 h8=>exact⟨A,c,rfl⟩
 | buf x v s o m =>
  simp only[xE,afE]at hl
  subst hl
  refine⟨fun s' hs=>(by cases hs),fun _ =>?_⟩
  simp only[alive,Option.isSome_iff_exists]at ha
  obtain⟨r,hr'⟩:=ha
  obtain⟨hx,hv⟩:=nU hr'
  rcases hr.2 r hx hv with⟨g,o',c,N',t',_,g1,_⟩|⟨_,rfl,A,g1⟩
  ·exact⟨_,c,g1⟩
  ·exact⟨A,0,g1⟩
 | _=>simp[xE]at hl
theorem OP (k:IntKind):∀(ds:List D) (us:List Value) (x z:Int),wB (fun x y=>if y>x then y else x) k x ds=some z->us.length=ds.length->(∀j d,ds[j]? = some d->RT w (Own M h blk) h blk V d (us.getD j undef)) ->
  (us.foldlM Builtin.max2 (.int k x)).run P w=.ok (.int k z) w
 | [],us,x,z,hm,hl,_=>by
  have:us=[]:=agO hl
  subst this
  simp only[wB,afE]at hm
  subst hm
  rfl
 | d::ds,us,x,z,hm,hl,hr=>by
  cases us with
  | nil=>simp at hl
  | cons u us =>
   have hu:=hr 0 d rfl
   cases d with
   | int k' y =>
    simp only[wB]at hm
    split at hm
    ·have hu':=ky hu
     simp only[agA]at hu'
     subst hu'
     have ih:=OP k ds us _ z hm (by simpa using hl) (fun j d hj=>by simpa using hr (j+1) d (by simpa using hj))
     simp only[List.foldlM_cons,af2,Builtin.max2,Sem.run_pure,Result.andThen_ok]
     exact ih
    ·cases hm
   | _=>simp[wB]at hm
theorem OQ (k:IntKind):∀(ds:List D) (us:List Value) (x z:Int),wB (fun x y=>if y<x then y else x) k x ds=some z->us.length=ds.length->(∀j d,ds[j]? = some d->RT w (Own M h blk) h blk V d (us.getD j undef)) ->
  (us.foldlM Builtin.min2 (.int k x)).run P w=.ok (.int k z) w
 | [],us,x,z,hm,hl,_=>by
  have:us=[]:=agO hl
  subst this
  simp only[wB,afE]at hm
  subst hm
  rfl
 | d::ds,us,x,z,hm,hl,hr=>by
  cases us with
  | nil=>simp at hl
  | cons u us =>
   have hu:=hr 0 d rfl
   cases d with
   | int k' y =>
    simp only[wB]at hm
    split at hm
    ·have hu':=ky hu
     simp only[agA]at hu'
     subst hu'
     have ih:=OQ k ds us _ z hm (by simpa using hl) (fun j d hj=>by simpa using hr (j+1) d (by simpa using hj))
     simp only[List.foldlM_cons,af2,Builtin.min2,Sem.run_pure,Result.andThen_ok]
     exact ih
    ·cases hm
   | _=>simp[wB]at hm
end
section
variable {P:Program} {T:Nat->Option Ty} {N:Nat} {M:Nat->Prop} {L:ik} {w0:World} {blk:Nat->Option (Nat×Nat)} {V:Nat->Nat->Prop} {t:Nat->D} {h:Nat->Option Row} {a:Act} {w:World} {e:Nat} {o:Oper} {Γ:Env}
theorem Inv.content (hI:Inv N M L w0 blk V t h a w) {d:D} {m s:Nat} {news:List D} {u:Value} (hs:0<s) (hc:content h d=some (m,news)) (hl:news.length=m*s) (hr:RT w (Own M h blk) h blk V d u) :
  ∃(A:Option Addr) (c:Nat) (us:List Value),u=.slice A m c∧m<=c∧us.length=news.length∧(∀j x,news[j]? = some x->aS x=true∧RP w (Own M h blk) x (us.getD j undef)) ∧
   (∀ad,A=some ad->∀j v,us[j]? = some v->w.cell? (ad.add j)=some v)∧(A=none->m=0∧c=0):=by
 cases d with
 | sl nl tight n xs =>
  simp only[Am.content,afE,Prod.mk.injEq]at hc
  obtain⟨rfl,rfl⟩:=hc
  have hr':RP w (Own M h blk) (.sl nl tight n xs) u:=hr
  cases hr' with
  | sl A c nl tight n xs us h1 h2 h3 h4 h5 h6 h7 h8 =>
   refine⟨A,c,(List.range xs.length).map us,rfl,h1,by simp,fun j x hj=>⟨h8 x (afX hj),?_⟩,fun ad hA j v hj =>?_,h4⟩
   ·have hlt:=(afY.1 hj).1
    have:((List.range xs.length).map us).getD j undef=us j:=by simp[List.getD,hlt]
    rw[this];exact h7 j x hj
   ·obtain⟨hlt,he⟩:=afY.1 hj
    simp only[afZ,af0]at hlt
    simp only[List.getElem_map,af1]at he
    have hne:xs≠[]:=by rintro rfl;simp at hlt
    obtain⟨b,o,hA',_,_,g3⟩:=h6 hne
    rw[hA]at hA'
    simp only[afE]at hA'
    subst hA'
    rw[nB,<- he]
    exact g3 j hlt
 | buf x v z q n =>
  simp only[Am.content]at hc
  split at hc
  ·rename_i r hlv
   split at hc
   ·rename_i hle
    simp only[afE,Prod.mk.injEq]at hc
    obtain⟨rfl,rfl⟩:=hc
    rcases hI.wX hlv hr with⟨g,o',c,cs,g0,g1,g2,g3,g4,g5,g7,g8⟩|⟨g0,rfl,g2,A,g3⟩
    ·have hlen:((r.cells.drop q).take (n*z)).length=n*z:=by simp;omega
     rw[hlen]at hl
     refine⟨_,c,(List.range (n*z)).map (fun j=>cs.getD (g.2+(q+j)) undef),g1,g2,by simp;omega,fun j x hj =>?_,fun ad hA j v hj =>?_,fun hA=>by cases hA⟩
     ·rw[b7]at hj
      split at hj
      ·rename_i hjl
       have:((List.range (n*z)).map (fun j=>cs.getD (g.2+(q+j)) undef)).getD j undef=cs.getD (g.2+(q+j)) undef:=by simp[List.getD,hjl]
       rw[this]
       exact g8 _ _ hj
      ·cases hj
     ·obtain⟨hlt,he⟩:=afY.1 hj
      simp only[afZ,af0]at hlt
      simp only[List.getElem_map,af1]at he
      simp only[afE]at hA
      subst hA
      have hn:0<n:=by
       rcases afN n with h0|h0
       ·subst h0;simp at hlt
       ·exact h0
      have:=(g5 (.inl (by omega))).1
      subst this
      rw[nB,<- he,afQ]
      exact aK g4 (by omega)
    ·refine⟨A,0,[],g3,afv _,by simp,fun j x hj=>by simp at hj,fun ad hA j v hj=>by simp at hj,fun _=>⟨rfl,rfl⟩⟩
   ·cases hc
  ·cases hc
 | _=>simp[Am.content]at hc
theorem appended {M':Nat->Prop} {olds news:List D} {xs us:List Value} {cur:Array Value} {b:Nat} (hxl:xs.length=olds.length) (hul:us.length=news.length) (hcur:(cur.toList.drop b).take (olds.length+news.length)=xs++us)
  (h1:∀j x,olds[j]? = some x->aS x=true∧RP w M' x (xs.getD j undef)) (h2:∀j x,news[j]? = some x->aS x=true∧RP w M' x (us.getD j undef)) (j:Nat) (x:D) (hj:(olds++news)[j]? = some x) :
  aS x=true∧RP w M' x (cur.getD (b+j) undef):=by
 have hlt:j<olds.length+news.length:=by
  have:=(afY.1 hj).1
  simpa using this
 have hg:cur.getD (b+j) undef=(xs++us).getD j undef:=by
  rw[<- hcur]
  simp only[af8,afL,if_pos hlt,afM]
  simp
 rw[hg]
 by_cases hjo:j<olds.length
 ·rw[af9 hjo]at hj
  have:(xs++us).getD j undef=xs.getD j undef:=by
   simp only[af8]
   rw[af9 (by omega)]
  rw[this];exact h1 j x hj
 ·rw[aga (by omega)]at hj
  have:(xs++us).getD j undef=us.getD (j-olds.length) undef:=by
   simp only[af8]
   rw[aga (by omega),hxl]
  rw[this];exact h2 _ x hj
theorem Yp {M':Nat->Prop} {news:List D} {us:List Value} (hul:us.length=news.length) (h2:∀j x,news[j]? = some x->aS x=true∧RP w M' x (us.getD j undef)):∀u∈us,u.oneCell'=true:=by
 intro u hu
 obtain⟨j,hj⟩:=afR hu
 have hlt:=(afY.1 hj).1
 obtain⟨p1,p2⟩:=h2 j _ (afI (by omega))
 have:us.getD j undef=u:=by simp[List.getD,hj]
 rw[this]at p2
 exact p2.oW p1
theorem mA (t ty el:Nat) {τ:Ty} (hd:P.underlying t=some (.slice el)) {φ:Ty} (hφ:dc P el φ) (A B:Option Addr) (n c k:Nat) (hn:n<=c):(Builtin.append_ #[t,t] ty #[.slice A n c,.slice B 0 k]).run P w=.ok (.slice A n c) w:=by
 have hfc:(Builtin.firstCells φ.size 0 (.slice B 0 k)).run P w=.ok #[] w:=by
  cases B with
  | none=>simp[Builtin.firstCells]
  | some b=>simp[Builtin.firstCells,loadCells,loadCellsFrom]
 cases A with
 | none=>simp[Builtin.append_,run_underlying hd,run_sizeOf hφ,Builtin.lenOf,hn,hfc]
 | some b=>simp[Builtin.append_,run_underlying hd,run_sizeOf hφ,Builtin.lenOf,hn,hfc,storeCells]
theorem EF (t ty el:Nat) {φ:Ty} (hd:P.underlying t=some (.slice el)) (hφ:dc P el φ) (hpos:0<φ.size) (hz0:φ.zero.length=φ.size) (A:Option Addr) (n cap:Nat) (xs:List Value) (hxl:xs.length=n*φ.size)
  (hxs:∀ad,A=some ad->∀j u,xs[j]? = some u->w.cell? (ad.add j)=some u) (hA:A=none->n=0∧cap=0) (b:Addr) (m c:Nat) (us:List Value) (hul:us.length=m*φ.size)
  (hus:∀j u,us[j]? = some u->w.cell? (b.add j)=some u) (hg:cap<n+m) (h63:n+m<=maxLen) (hb:(n+m)*φ.bytes<=140737488355328) :
  ∃k vs,(Builtin.append_ #[t,t] ty #[.slice A n cap,.slice (some b) m c]).run P w=.ok (.slice (some ⟨w.heap.size,0,none⟩) (n+m) k) (w.drew.alloc (.cells vs el))∧n+m<=k∧k<=maxLen∧k*φ.size=vs.size∧vs.toList.take ((n+m)*φ.size)=xs++us:=by
 obtain⟨d',i,z,i1,i2,i3,i4,i5,i6,i7⟩:=hφ.get
 have hzs:z.cells.size=φ.size:=by rw[i7];simpa using hz0
 have h63':((n+m:Nat):Int)<=9223372036854775807:=by simp only[maxLen]at h63;omega
 have hlen:(xs++us).length=(n+m)*φ.size:=by rw[agF,hxl,hul,agJ]
 have hge:=grownCap_ge w (n+m) cap el
 have hcm:grownCap w (n+m) cap el<=maxLen:=grownCap_le_maxLen w (n+m) cap el h63
 have fin:∀vs:Array Value,vs=xs.toArray++us.toArray++Builtin.zeroCells z.cells (grownCap w (n+m) cap el-(n+m))->grownCap w (n+m) cap el*φ.size=vs.size∧vs.toList.take ((n+m)*φ.size)=xs++us:=by
  intro vs hvs
  subst hvs
  refine⟨?_,?_⟩
  ·simp only[Array.size_append,agP,size_zeroCells,hzs,hxl,hul,<- agJ]
   congr 1
   omega
  ·simp only[agQ,agR]
   rw[<- agR,<- hlen]
   exact List.take_left
 cases A with
 | some ad =>
  have hr:=run_append_grow (P:=P) w t ty el i z hd i3 i6 ad n cap xs (by rw[i4];exact hxl) (hxs ad rfl) b m c us (by rw[i4];exact hul) hus hg h63' (growslice_fits hg (by rw[i5];exact hb))
  obtain⟨f1,f2⟩:=fin _ rfl
  exact⟨_,_,hr,hge,hcm,f1,f2⟩
 | none =>
  obtain⟨rfl,rfl⟩:=hA rfl
  have hx0:xs=[]:=agO (by omega)
  subst hx0
  have hr:=run_append_nil (P:=P) w t ty el i z hd i3 i6 b m c us (by rw[i4];exact hul) hus (by omega) (by simpa using h63') (by rw[i5];simp only[agj]at hb;omega)
  simp only[agj]at hge hcm fin ⊢
  obtain⟨f1,f2⟩:=fin _ rfl
  refine⟨_,_,hr,hge,hcm,?_,?_⟩
  ·simpa using f1
  ·simpa using f2
theorem FH (t ty el:Nat) {φ:Ty} (hd:P.underlying t=some (.slice el)) (hφ:dc P el φ) (g q n cap:Nat) (cur:Array Value) (hg:w.heap[g]? = some (.cells cur el (0,0))) (b:Addr) (m c:Nat) (us:List Value) (hul:us.length=m*φ.size)
  (hus:∀j u,us[j]? = some u->w.cell? (b.add j)=some u) (h1:∀u∈us,u.oneCell'=true) (hroom:n+m<=cap) (hfit:q+n*φ.size+us.length<=cur.size) :
  (Builtin.append_ #[t,t] ty #[.slice (some ⟨g,q,none⟩) n cap,.slice (some b) m c]).run P w =
   .ok (.slice (some ⟨g,q,none⟩) (n+m) cap) (w.setRow g (cur.toList.take (q+n*φ.size)++us++cur.toList.drop (q+n*φ.size+us.length)).toArray):=by
 obtain⟨d',i,z,i1,i2,i3,i4,i5,i6,i7⟩:=hφ.get
 have hf:=run_firstCells_some (P:=P) w i.size m b m c us (by rw[i4];exact hul) hus
 have hst:=run_storeCells_at P g (q+n*i.size) el us 0 cur w hg (by rw[i4];simpa using hfit) h1
 simp only[Nat.add_zero]at hst
 rw[<- i4]
 simp[Builtin.append_,run_underlying hd,sizeOf,typeInfo,i3,Builtin.lenOf,hroom,hf,nB,hst]
theorem yT {α:Type} (l us rest:List α) (b k:Nat) (h:b+k<=l.length):((l.take (b+k)++us++rest).drop b).take (k+us.length)=(l.drop b).take k++us:=by
 have h1:((l.drop b).take k).length=k:=by simp;omega
 rw[agR,agS (by simp;omega),List.drop_take,agT,agU,h1,agT,agV (afv _),agW (l:=us) (afv _),agW (by rw[h1];omega)]
theorem LU (hT:gm P T) (hI:Inv N M L w0 blk V t h a w) {c:Call} {s x:Operand} {ty d:Nat} {τ:Ty} {E:bt} (ho:o.op=.call c) (hc:c.callee=.builtin .append) (hargs:c.args = #[s,x]) (htys:c.argTypes = #[ty,ty]) (hd:o.dst=some d)
  (hV:gR N V d e) (hτ:T ty=some τ) (hE:gZ T τ h e d (ev t s) (ev t x)=some E):dz P o a w (aV N M L w0 V t h a e o.dst E):=by
 have hps:=hI.ev s
 have hpx:=hI.ev x
 generalize ev t s=qs at *
 generalize ev t x=qx at *
 obtain⟨dd,hdd,hcv⟩:=under hT hτ
 have hexec:∀v w',(Builtin.append_ #[ty,ty] o.type #[a.eval s,a.eval x]).run P w=.ok v w'->(execOp a.eval o).run P w=.ok (.value v) w':=by
  intro v w' hr
  simp[execOp,ho,resolve,hc,hargs,htys,invoke,builtin,hr]
 unfold gZ at hE
 split at hE
 ·rename_i el hds
  rw[hds]at hcv
  have:=eY hcv
  subst this
  split at hE
  ·rename_i φ m news hφ hcont
   split at hE
   ·rename_i hpos
    have grow:∀(old:Option Nat) (A:Option Addr) (n cap:Nat) (xs:List Value) (olds:List D),(∀y,old=some y->∃r,h y=some r∧r.fz=false)->a.eval s=.slice A n cap->n<=cap->(A=none->n=0∧cap=0)->xs.length=n*φ.size->olds.length=xs.length ->
      (∀ad,A=some ad->∀j u,xs[j]? = some u->w.cell? (ad.add j)=some u)->(∀(j:Nat) x,olds[j]? = some x->aS x=true∧RP w (Own M h blk) x (xs.getD j undef))->cap<n+m->n+m<=maxLen->(n+m)*φ.bytes<=140737488355328->news.length=m*φ.size ->
      E=⟨.buf d e φ.size 0 (n+m),(match old with|some y=>[(y,none)]|none=>[])++[(d,some ⟨e,el,olds++news,false,true,false⟩)]⟩->dz P o a w (aV N M L w0 V t h a e o.dst E):=by
     intro old A n cap xs olds hold hs hnc hA hxl hol hxs holds hgt h63 hby hnl hEq
     obtain⟨B,cb,us,hx1,hxle,hx2,hx3,hx4,hx5⟩:=hI.content hpos.1 hcont hnl hpx
     cases B with
     | none =>
      have:=(hx5 rfl).1
      subst this
      omega
     | some b =>
      obtain⟨k,vs,hrun,g1,g2,g3,g4⟩:=EF (P:=P) (w:=w) ty o.type el hdd (hT el φ hφ) hpos.1 hpos.2 A n cap xs hxl hxs hA b m cb us (by omega) (hx4 b rfl) hgt h63 hby
      have hb:Below w.heap.size w (w.drew.alloc (.cells vs el)):=((Below.refl _ _).drew).alloc (by simp) _
      refine aD (hexec _ _ (by rw[hs,hx1];exact hrun)) ?_
      have:=hI.fresh (old:=old) (dst:=o.dst) (e:=e) (d:=d) (ty:=el) (s:=φ.size) (n:=n+m) (cells:=olds++news) (w':=w.drew.alloc (.cells vs el)) (v := .slice (some ⟨w.heap.size,0,none⟩) (n+m) k) hd hV (dJ.xS hb) hold
       (.inl ⟨(w.heap.size,0),k,vs,rfl,.inl (afv _),by simpa using heap_alloc_new w.drew (.cells vs el),g1,g2,by simpa using g3,?_,fun j y hj =>?_⟩)
      ·subst hEq
       unfold aV
       cases old with
       | none=>exact this
       | some y=>exact this
      ·simp only[agj,agF,hol,hxl,hnl,<- agJ]
       rw[<- g3]
       exact agi _ g1
      ·have hA':=appended (b:=0) (M':=Own M h blk) (w:=w) (olds:=olds) (news:=news) (xs:=xs) (us:=us) (cur:=vs) hol.symm hx2 (by rw[agX,hol,hxl,hnl,<- agJ];exact g4) holds hx3 j y hj
       simp only[agj]at hA' ⊢
       refine⟨hA'.1,hA'.2.keep fun b k1 k2=>⟨afy k1 hb.size,fun hb' =>?_,hb.block b k1⟩⟩
       rcases hb' with hb'|rfl
       ·exact k2 (wE hb')
       ·omega
    split at hE
    ·rename_i nl tight n xs
     split at hE
     ·rename_i hcond
      obtain⟨k1,k2,k3,k4,k5⟩:=hcond
      split at hE
      ·rename_i hm
       subst hm
       simp only[afE]at hE
       subst hE
       obtain⟨A,cx,us,hx1,hxle,hx2,hx3,hx4,hx5⟩:=hI.content hpos.1 hcont k5 hpx
       obtain⟨B,cb,xs',hs1,hsle,_⟩:=hI.content (d := .sl nl tight n xs) hpos.1 rfl k4 hps
       refine aD (hexec _ _ (by rw[hs1,hx1];exact mA (τ:=τ) ty o.type el hdd (hT el φ hφ) B A n cb cx hsle)) (aV.de hI ?_)
       rw[<- hs1];exact hps
      ·rename_i hm
       simp only[afE]at hE
       obtain⟨B,cb,xs',hs1,hsle,hs2,hs3,hs4,hs5⟩:=hI.content (d := .sl nl tight n xs) hpos.1 rfl k4 hps
       have hcap:cb=n:=by
        have hps':RP w (Own M h blk) (.sl nl tight n xs) (a.eval s):=hps
        generalize a.eval s=u at *
        cases hps' with
        | sl A' c' nl tight n xs us' h1 h2 h3 h4 h5 h6 h7 h8 =>
         simp only[Value.slice.injEq]at hs1
         obtain⟨_,_,rfl⟩:=hs1
         exact h5 k1
       subst hcap
       exact grow none B cb cb xs' xs (fun y hy=>by cases hy) hs1 hsle (fun h=>(hs5 h)) (by omega) (by omega) hs4 hs3 (by omega) k2 k3 k5 hE.symm
     ·cases hE
    ·rename_i y v zz q n
     split at hE
     ·rename_i r hlv
      split at hE
      ·rename_i hcond
       obtain⟨k1,k2,k3,k4,k5,k6,k7⟩:=hcond
       subst k1
       simp only[afE]at hE
       obtain⟨hyy,hyv⟩:=bU hlv
       have hcont':Am.content h (.buf y v φ.size q n)=some (n,(r.cells.drop q).take (n*φ.size)):=by simp only[Am.content,hlv,if_pos k4]
       have hol:((r.cells.drop q).take (n*φ.size)).length=n*φ.size:=by simp;omega
       obtain⟨B,cb,xs',hs1,hsle,hs2,hs3,hs4,hs5⟩:=hI.content hpos.1 hcont' hol hps
       by_cases hroom:n+m<=cb
       ·obtain⟨A,cx,us,hx1,hxle,hx2,hx3,hx4,hx5⟩:=hI.content hpos.1 hcont k7 hpx
        have empty:cb=0->dz P o a w (aV N M L w0 V t h a e o.dst E):=by
         intro h0
         have hn0:n=0:=by omega
         have hm0:m=0:=by omega
         subst hn0 hm0 h0
         have hnews:news=[]:=agO (by omega)
         subst hE hnews
         refine aD (hexec _ _ (by rw[hs1,hx1];exact mA (τ:=τ) ty o.type el hdd (hT el φ hφ) B A 0 0 cx (afv _))) ?_
         have:=hI.fresh (old:=some y) (dst:=o.dst) (e:=e) (d:=d) (ty:=el) (s:=φ.size) (n:=0) (cells:=[]) (w':=w) (v := .slice B 0 0) hd hV (dJ.refl _ _) (fun y' hy'=>by cases hy';exact⟨r,hyy,k3⟩) (.inr ⟨rfl,rfl,B,rfl⟩)
         unfold aV
         have e0:(r.cells.drop q).take (0*φ.size)++[]=[]:=by simp
         rw[e0]
         exact this
        rcases hI.wX hlv hps with⟨g,o',cb',cs,g0,g1,g2,g3,g4,g5,g7,g8⟩|⟨g0,g1,g2,A',g3⟩
        ·have hcb:cb'=cb:=by rw[g1]at hs1;simp at hs1;exact hs1.2
         subst hcb
         by_cases hcq:0<cb'∨q=0
         ·obtain⟨ho',hcs⟩:=g5 hcq
          subst ho'
          have hfit0:(n+m)*φ.size<=cb'*φ.size:=agi _ hroom
          rw[agJ]at hfit0
          have hfit:g.2+q+n*φ.size+us.length<=cs.size:=by omega
          have hxl2:((cs.toList.drop (g.2+q)).take (n*φ.size)).length=n*φ.size:=by simp;omega
          have hrun:∃cur,(Builtin.append_ #[ty,ty] o.type #[a.eval s,a.eval x]).run P w=.ok (.slice (some ⟨g.1,g.2+q,none⟩) (n+m) cb') (w.setRow g.1 cur)∧cur.size=cs.size∧(cur.toList.drop (g.2+q)).take (n*φ.size+m*φ.size)=(cs.toList.drop (g.2+q)).take (n*φ.size)++us:=by
           rw[hx1,g1]
           cases A with
           | some ad =>
            refine⟨_,FH (P:=P) ty o.type el hdd (hT el φ hφ) g.1 (g.2+q) n cb' cs (by rw[<- k2];exact g4) ad m cx us (by omega) (hx4 ad rfl) (Yp hx2 hx3) hroom hfit,by simp;omega,?_⟩
            have:=yT cs.toList us (cs.toList.drop (g.2+q+n*φ.size+us.length)) (g.2+q) (n*φ.size) (by simp;omega)
            have hul:us.length=m*φ.size:=by omega
            rw[hul]at this
            rw[hul]
            exact this
           | none =>
            obtain⟨rfl,rfl⟩:=hx5 rfl
            have hu0:us=[]:=agO (by omega)
            subst hu0
            refine⟨cs,?_,rfl,by simp⟩
            rw[setRow_self w g.1 cs r.ty (0,0) g4]
            exact mA (τ:=τ) ty o.type el hdd (hT el φ hφ) _ _ n cb' 0 g2
          obtain⟨cur,hrun,hcur,htake⟩:=hrun
          subst hE
          have hown:Own M h blk g.1 := .inr ⟨y,r,g,hyy,k3,g0,rfl⟩
          have hheap:∀b,b≠g.1->(w.setRow g.1 cur).heap[b]? = w.heap[b]?:=by
           intro b hb
           simp only[World.setRow,afF]
           rw[if_neg (Ne.symm hb)]
          have hsize:(w.setRow g.1 cur).heap.size=w.heap.size:=by simp[World.setRow]
          refine aD (hexec _ _ hrun) ?_
          have:=hI.fresh (old:=some y) (dst:=o.dst) (e:=e) (d:=d) (ty:=el) (s:=φ.size) (n:=n+m) (cells:=(r.cells.drop q).take (n*φ.size)++news) (w':=w.setRow g.1 cur) (v := .slice (some ⟨g.1,g.2+q,none⟩) (n+m) cb') hd hV
           ⟨rfl,rfl,rfl,by rw[hsize];exact afv _,fun b _ hb=>hheap b (fun he=>hb ⟨y,g,rfl,g0,he⟩)⟩ (fun y' hy'=>by cases hy';exact⟨r,hyy,k3⟩)
           (.inl ⟨(g.1,g.2+q),cb',cur,rfl,.inr ⟨y,g,rfl,g0,rfl⟩,by rw[<- k2];exact setRow_heap w g.1 cs cur r.ty (0,0) g4,hroom,g3,by rw[hcur];exact hcs,by simp only[agF,hol];omega,fun j z hj =>?_⟩)
          ·unfold aV
           exact this
          ·have hA':=appended (b:=g.2+q) (M':=Own M h blk) (w:=w) (olds:=(r.cells.drop q).take (n*φ.size)) (news:=news) (xs:=(cs.toList.drop (g.2+q)).take (n*φ.size)) (us:=us) (cur:=cur) (by rw[hol,hxl2]) hx2 (by rw[hol,k7];exact htake)
            (fun j z hj=>by
             rw[b7]at hj
             split at hj
             ·rename_i hjl
              have:=g8 _ _ hj
              have he:((cs.toList.drop (g.2+q)).take (n*φ.size)).getD j undef=cs.getD (g.2+(q+j)) undef:=by
               simp only[af8,b7,if_pos hjl,afQ]
               simp
              rw[he];exact this
             ·cases hj) hx3 j z hj
           refine⟨hA'.1,hA'.2.keep fun b q1 q2=>⟨by rw[hsize];exact q1,?_,hheap b (fun he=>q2 (he ▸ hown))⟩⟩
           rintro (hb|rfl)
           ·exact q2 (wE hb)
           ·exact q2 hown
         ·exact empty (by omega)
        ·rw[g3]at hs1
         simp only[Value.slice.injEq]at hs1
         exact empty (by omega)
       ·exact grow (some y) B n cb xs' _ (fun y' hy'=>by cases hy';exact⟨r,hyy,k3⟩) hs1 hsle (fun h=>(hs5 h)) (by omega) (by omega) hs4 hs3 (by omega) k5 k6 k7 hE.symm
      ·cases hE
     ·cases hE
    ·cases hE
   ·cases hE
  ·cases hE
 ·cases hE
end
section
variable {P:Program} {T:Nat->Option Ty} {N:Nat} {M:Nat->Prop} {L:ik} {w0:World} {blk:Nat->Option (Nat×Nat)} {V:Nat->Nat->Prop} {t:Nat->D} {h:Nat->Option Row} {a:Act} {w:World} {e:Nat} {o:Oper} {Γ:Env}
theorem OT {s:Ds} {x:D} (hk:kindOk s x=true):s.nd=false∧jA s=true:=by
 cases s<;>cases x<;>simp[kindOk]at hk<;>exact⟨rfl,rfl⟩
theorem wJ (hT:gm P T) (n:Nat) {M':Nat->Prop} {us vs:List Value} : ∀(F:List Field) (o:Nat) (xs ys:List D) (b:Bool),(∀f∈F,f.name ≠ "_")->eA T o (F.map fun f=>(f.type,f.offset)) xs=true->SM xs ys=some b ->
  (∀j x,xs[j]? = some x->RP w M' x (us.getD (o+j) undef)∧o+j<us.length)->(∀j y,ys[j]? = some y->RP w M' y (vs.getD (o+j) undef)∧o+j<vs.length) ->
  (forIn F ((none,()):Option Bool×Unit) fun f __s =>
   if f.name ≠ "_" then do
    let __do_lift <- part f.type us.toArray f.offset
    let __do_lift_1 <- part f.type vs.toArray f.offset
    let __do_lift <- Op.equalIn (n+1) f.type __do_lift __do_lift_1
    if (!__do_lift)=true then pure (ForInStep.done (some false,())) else pure (ForInStep.yield (none,()))
   else (pure (ForInStep.yield (none,())):Sem _)).run P w=.ok (if b then (none,()) else (some false,())) w
 | [],o,xs,ys,b,hn,hf,he,hx,hy=>by
  cases xs with
  | nil =>
   cases ys with
   | nil =>
    simp only[SM,afE]at he
    subst he
    rfl
   | cons y ys=>simp[SM]at he
  | cons x xs=>simp[eA]at hf
 | f::F,o,xs,ys,b,hn,hf,he,hx,hy=>by
  cases xs with
  | nil=>simp[eA]at hf
  | cons x xs =>
   cases ys with
   | nil=>simp[SM]at he
   | cons y ys =>
    simp only[afB,eA,af6,beq_iff_eq]at hf
    obtain⟨⟨h1,h2⟩,h3⟩:=hf
    simp only[SM]at he
    split at he
    ·rename_i b1 b2 hb1 hb2
     simp only[afE]at he
     subst he
     split at h2
     ·rename_i φ hφ
      obtain⟨hx1,hx2⟩:=hx 0 x rfl
      obtain⟨hy1,hy2⟩:=hy 0 y rfl
      rw[af4]at hx1 hx2 hy1 hy2
      obtain⟨hA,hS⟩:=OT h2
      have hp1:(part f.type us.toArray f.offset).run P w=.ok (us.getD o undef) w:=by
       have hg:us.toArray[f.offset]? = some (us.getD o undef):=by rw[h1];simp[List.getD,afI hx2]
       simp only[part,af2,ko (hT _ _ hφ),hA,Result.andThen_ok,af5,if_false,hg]
       rfl
      have hp2:(part f.type vs.toArray f.offset).run P w=.ok (vs.getD o undef) w:=by
       have hg:vs.toArray[f.offset]? = some (vs.getD o undef):=by rw[h1];simp[List.getD,afI hy2]
       simp only[part,af2,ko (hT _ _ hφ),hA,Result.andThen_ok,af5,if_false,hg]
       rfl
      have heq:=(aaG hT hφ hS hx1 hy1 hb1 n).2 (UP hb1 h2)
      have ih:=wJ hT n F (o+1) xs ys b2 (fun g hg=>hn g (by simp[hg])) h3 hb2 (fun j z hj=>by have:=hx (j+1) z hj;rwa [show o+(j+1)=o+1+j by omega]at this) (fun j z hj=>by have:=hy (j+1) z hj;rwa [show o+(j+1)=o+1+j by omega]at this)
      rw[List.forIn_cons]
      simp only[af2]
      rw[if_pos (hn f (by simp))]
      simp only[af2,hp1,Result.andThen_ok,hp2,heq]
      cases b1 with
      | false=>rfl
      | true =>
       simp only[agY,af5,if_false,Sem.run_pure,Result.andThen_ok,agZ]
       exact ih
     ·cases h2
    ·cases he
theorem run_equalIn_bool (n:Nat) {ty:Nat} (hd:P.underlying ty=some .bool) (i j:Bool):(Op.equalIn (n+1) ty (.bool i) (.bool j)).run P w=.ok (i==j) w:=by
 simp[Op.equalIn,run_underlying hd]
theorem run_equalIn_struct (n:Nat) {ty:Nat} {F:Array Field} (hd:P.underlying ty=some (.struct F)) (q1:P.stoodInHeld ty=false) {us vs:List Value} {b:Bool}
  (hloop:(forIn F.toList ((none,()):Option Bool×Unit) fun f __s =>
   if f.name ≠ "_" then do
    let __do_lift <- part f.type us.toArray f.offset
    let __do_lift_1 <- part f.type vs.toArray f.offset
    let __do_lift <- Op.equalIn (n+1) f.type __do_lift __do_lift_1
    if (!__do_lift)=true then pure (ForInStep.done (some false,())) else pure (ForInStep.yield (none,()))
   else (pure (ForInStep.yield (none,())):Sem _)).run P w=.ok (if b then (none,()) else (some false,())) w) :
  (Op.equalIn (n+1+1) ty (.agg us.toArray) (.agg vs.toArray)).run P w=.ok b w:=by
 have hprog:(program:Sem Program).run P w=.ok P w:=rfl
 rw[Op.equalIn]
 simp only[af2,run_underlying hd,Result.andThen_ok,hprog,q1,af5,if_false]
 rw[<- Array.forIn_toList,hloop]
 cases b<;>rfl
theorem TC (hT:gm P T) (hI:Inv N M L w0 blk V t h a w) {ty:Nat} {τ:Ty} (hτ:T ty=some τ) {x y:D} {u v:Value} {b:Bool} (hx:RT w (Own M h blk) h blk V x u) (hy:RT w (Own M h blk) h blk V y v) (hb:V6 T τ x y=some b) :
  (Op.equal ty u v).run P w=.ok b w∧(∀(p q:Operand) (op:BinOp),(eqGuard op ty p q u v).run P w=.ok () w)∧(∀op,op=.eql∨op=.neq->binOp op ty u v=(match op with | .eql=>(do pure (.bool (<- Op.equal ty u v)):Sem Value)|_=>do pure (.bool (!(<- Op.equal ty u v))))):=by
 obtain⟨d,hd,hc⟩:=under hT hτ
 unfold V6 at hb
 split at hb
 ·rename_i i j
  have hu:=tV hx
  have hv:=tV hy
  subst hu hv
  split at hb
  ·rename_i hds
   rw[hds]at hc
   have:=uc hc
   subst this
   simp only[afE]at hb
   subst hb
   refine⟨run_equalIn_bool 9999 hd i j,fun p q op=>by cases op<;>rfl,fun op hop =>?_⟩
   rcases hop with rfl|rfl<;>rfl
  ·cases hb
 ·rename_i nl tg n xs
  have hx':RP w (Own M h blk) (.sl nl tg n xs) u:=hx
  have hy':RP w (Own M h blk) (.sl true true 0 []) v:=hy
  split at hb
  ·rename_i el hds
   rw[hds]at hc
   have:=eY hc
   subst this
   cases hy' with
   | sl A c _ _ _ _ us h1 h2 h3 h4 h5 h6 h7 h8 =>
    obtain⟨rfl,rfl⟩:=(h3 rfl).1 rfl
    cases hx' with
    | sl B c' _ _ _ _ us' g1 g2 g3 g4 g5 g6 g7 g8 =>
     have hr:=run_equal_slice_nil (P:=P) w ty el B n c' hd
     refine⟨?_,fun p q op=>by cases op<;>rfl,fun op hop =>?_⟩
     ·rw[hr]
      have hB:B.isNone=b:=by
       unfold aay at hb
       split at hb
       ·rename_i hpos
        simp only[afE]at hb
        subst hb
        cases B with
        | none=>have:=(g4 rfl).1;omega
        | some _=>rfl
       ·split at hb
        ·rename_i hnl
         simp only[afE]at hb
         subst hb
         cases htg:tg with
         | true=>rw[((g3 hnl).1 htg).1];rfl
         | false =>
          cases B with
          | none=>exact absurd rfl ((g3 hnl).2 htg)
          | some _=>rfl
        ·cases hb
      rw[<- hB]
     ·rcases hop with rfl|rfl<;>rfl
  ·cases hb
 ·rename_i xs ys
  have hx':RP w (Own M h blk) (.agg xs) u:=hx
  have hy':RP w (Own M h blk) (.agg ys) v:=hy
  split at hb
  ·rename_i fs hds
   rw[hds]at hc
   obtain⟨F,rfl,hF⟩:=fU hc
   split at hb
   ·rename_i hcond
    simp only[af6]at hcond
    obtain⟨q1,q2,q3⟩:=(hT ty τ hτ).eqs hcond.1
    rw[hd]at q3
    simp only at q3
    cases hx' with
    | agg xs us h1 h2 h3 =>
     cases hy' with
     | agg ys vs g1 g2 g3 =>
      have hnames:∀f∈F.toList,f.name ≠ "_":=by
       intro f hf
       have:=Array.all_eq_true_iff_forall_mem.1 q3 f (by simpa using hf)
       simpa using this
      have hloop:=wJ (P:=P) (w:=w) hT 9998 (M':=Own M h blk) (us:=us) (vs:=vs) F.toList 0 xs ys b hnames (by rw[hF];exact hcond.2) hb
       (fun j x hj=>by rw[agj];exact⟨h2 j x hj,by have:=(afY.1 hj).1;omega⟩) (fun j x hj=>by rw[agj];exact⟨g2 j x hj,by have:=(afY.1 hj).1;omega⟩)
      refine⟨?_,fun p q op =>?_,fun op hop =>?_⟩
      ·exact run_equalIn_struct 9998 hd q1 hloop
      ·cases op<;>first|rfl|simp[eqGuard,program,Sem.run,q2]
      ·rcases hop with rfl|rfl<;>rfl
   ·cases hb
  ·cases hb
 ·cases hb
theorem PN (hT:gm P T) (hI:Inv N M L w0 blk V t h a w) {x y:Operand} {op:BinOp} {ty ty':Nat} {d:D} (ho:o.op=.binOp op ty x y ty') (hd:yR T ty op (ev t x) (ev t y)=some d):dz P o a w (aV N M L w0 V t h a e o.dst ⟨d,[]⟩):=by
 have hx:=hI.ev x
 have hy:=hI.ev y
 generalize ev t x=p at *
 generalize ev t y=q at *
 unfold yR at hd
 split at hd
 ·rename_i k i k' j
  have hu:=ky hx
  have hv:=ky hy
  have hg:(eqGuard op ty x y (.int k i) (.int k' j)).run P w=.ok () w:=by cases op<;>rfl
  split at hd
  ·rename_i hs
   obtain⟨v,hr,hp⟩:=Ra (P:=P) (w:=w) (M:=Own M h blk) (ty:=ty) (k':=k') hs hd
   exact aD (by simp[execOp,ho,hu,hv,hg,hr]) (aV.de hI (bo hp))
  ·rename_i hs
   split at hd
   ·rename_i hk
    subst hk
    obtain⟨v,hr,hp⟩:=YB (P:=P) (w:=w) (M:=Own M h blk) (ty:=ty) (by simpa using hs) hd
    exact aD (by simp[execOp,ho,hu,hv,hg,hr]) (aV.de hI (bo hp))
   ·cases hd
 ·rename_i s s'
  have hu:=BQ hx
  have hv:=BQ hy
  have hg:(eqGuard op ty x y (.string s) (.string s')).run P w=.ok () w:=by cases op<;>rfl
  obtain⟨v,hr,hp⟩:=YD (P:=P) (w:=w) (M:=Own M h blk) (ty:=ty) hd
  exact aD (by simp[execOp,ho,hu,hv,hg,hr]) (aV.de hI (bo hp))
 ·split at hd
  ·rename_i τ hτ
   split at hd
   ·split at hd
    ·rename_i c hc
     simp only[afE]at hd
     subst hd
     obtain⟨r1,r2,r3⟩:=TC (P:=P) hT hI hτ hx hy hc
     have hb:=r3 .eql (.inl rfl)
     exact aD (v := .bool c) (w':=w) (by simp[execOp,ho,r2,hb,r1]) (aV.de hI (bo (.bool _)))
    ·cases hd
   ·split at hd
    ·rename_i c hc
     simp only[afE]at hd
     subst hd
     obtain⟨r1,r2,r3⟩:=TC (P:=P) hT hI hτ hx hy hc
     have hb:=r3 .neq (.inr rfl)
     exact aD (v := .bool !c) (w':=w) (by simp[execOp,ho,r2,hb,r1]) (aV.de hI (bo (.bool _)))
    ·cases hd
   ·cases hd
  ·cases hd
end
theorem Ad (n:Int):∀(ks:List Int) (l:List MapEntry) (us:Nat->Value) (i:Nat),l.length=ks.length->(∀j k,ks[j]? = some k->∃e:MapEntry,l[j]? = some e∧e.key=.int .i64 k∧e.val=us j) ->
  Instr.findNow (.int .i64) (.int .i64 n) l i=some (if ks.contains n then some (i+ks.idxOf n,us (ks.idxOf n)) else none)
 | [],[],_,_,_,_=>by simp[Instr.findNow]
 | k::ks,e::l,us,i,hl,h=>by
  obtain⟨e',h1,h2,h3⟩:=h 0 k rfl
  simp only[List.getElem?_cons_zero,afE]at h1
  subst h1
  have ih:=Ad n ks l (fun j=>us (j+1)) (i+1) (by simpa using hl) (fun j k hj=>by simpa using h (j+1) k (by simpa using hj))
  by_cases hk:k=n
  ·subst hk
   simp[Instr.findNow,h2,Instr.sameNow,h3,agw]
  ·have hk1:(n==k)=false:=by simp[Ne.symm hk]
   have hk2:(k==n)=false:=by simp[hk]
   simp only[Instr.findNow,h2,Instr.sameNow,if_true,hk1,ih,agx,agy,agw,hk2,cond_false]
   have e1:i+1+List.idxOf n ks=i+(List.idxOf n ks+1):=by omega
   rw[e1]
theorem U3 {ks:List bV} (h:ks.all (fun k=>FM k==false)=true):ks=(ks.map (·.1)).map fun n=>(n,none):=by
 induction ks with
 | nil=>rfl
 | cons k ks ih =>
  simp only[List.all_cons,af6]at h
  obtain⟨a,x⟩:=k
  cases x with
  | none=>simp only[afB];rw[<- ih h.2]
  | some b=>simp[FM]at h
theorem w8 (n:Int) (l:List Int):(l.map fun m=>((m,none):bV)).contains (n,none)=l.contains n∧(l.map fun m=>((m,none):bV)).idxOf (n,none)=l.idxOf n:=by
 induction l with
 | nil=>exact⟨rfl,rfl⟩
 | cons m l ih =>
  have hb0:∀n m:Int,(((n,none):bV)==(m,none))=(n==m):=fun n m=>by
   by_cases h:n=m
   ·subst h;rw[beq_self_eq_true,beq_self_eq_true]
   ·rw[beq_eq_false_iff_ne.2 h,beq_eq_false_iff_ne.2 (fun e=>h (congrArg Prod.fst e))]
  have hb:=hb0 n m
  have hb2:=hb0 m n
  simp only[afB,agx,agw,hb,hb2,ih.1,ih.2,and_self]
theorem Mh (n:Int) (ks:List bV) (l:List MapEntry) (us:Nat->Value) (hl:l.length=ks.length) (hb:ks.all (fun k=>FM k==false)=true) (h:∀j k,ks[j]? = some k->∃e:MapEntry,l[j]? = some e∧e.key=jx k∧e.val=us j) :
  Instr.findNow (.int .i64) (.int .i64 n) l 0=some (if ks.contains (n,none) then some (ks.idxOf (n,none),us (ks.idxOf (n,none))) else none):=by
 have hk:=U3 hb
 generalize ks.map (·.1)=q at hk
 subst hk
 have:=Ad n q l us 0 (by simpa using hl) (fun j k hj=>by
  obtain⟨e,h1,h2,h3⟩:=h j (k,none) (by simp[hj])
  exact⟨e,h1,h2,h3⟩)
 rw[(w8 n q).1,(w8 n q).2]
 simpa using this
theorem Nt (z:D) (n:bV):∀(ks:List bV) (vs:List D),vs.length=ks.length->nV z ks vs n=if ks.contains n then vs.getD (ks.idxOf n) z else z
 | [],_,_=>by simp[nV]
 | k::ks,v::vs,hl=>by
  have ih:=Nt z n ks vs (by simpa using hl)
  by_cases hk:k=n
  ·subst hk
   simp[nV,agw]
  ·have hk1:(n==k)=false:=by simp[Ne.symm hk]
   have hk2:(k==n)=false:=by simp[hk]
   simp[nV,hk,ih,agw,hk1,hk2,Ne.symm hk]
section
variable {P:Program} {T:Nat->Option Ty} {N:Nat} {M:Nat->Prop} {L:ik} {w0:World} {blk:Nat->Option (Nat×Nat)} {V:Nat->Nat->Prop} {t:Nat->D} {h:Nat->Option Row} {a:Act} {w:World} {e:Nat} {o:Oper}
theorem U2 {κ:Ty} (hk:s7 T κ=some true):∃a b α β,κ.ds=.struct [(a,0),(b,1)]∧T a=some α∧T b=some β∧α.ds=.int .i64∧β.ds=.int .i64∧κ.eqok=true:=by
 unfold s7 at hk
 split at hk
 ·cases hk
 ·rename_i a b hds
  split at hk
  ·rename_i α β hα hβ
   split at hk
   ·rename_i h1 h2
    split at hk
    ·rename_i hq
     exact⟨a,b,α,β,hds,hα,hβ,h1,h2,hq⟩
    ·cases hk
   ·cases hk
  ·cases hk
 ·cases hk
theorem U1 {κ:Ty} (hk:s7 T κ=some false):κ.ds=.int .i64:=by
 unfold s7 at hk
 split at hk
 ·assumption
 ·split at hk
  ·split at hk
   ·split at hk<;>cases hk
   ·cases hk
  ·cases hk
 ·cases hk
theorem An (hT:gm P T) {ty:Nat} {τ φ:Ty} {b:Bool} (hτ:T ty=some τ) (hm:DD T τ=some (b,φ)):∃kt et κ,P.underlying ty=some (.map kt et)∧T kt=some κ∧s7 T κ=some b∧T et=some φ:=by
 unfold DD at hm
 split at hm
 ·rename_i k el hds
  split at hm
  ·rename_i κ φ' hκ hφ
   split at hm
   ·rename_i b' hk
    simp only[afE,Prod.mk.injEq]at hm
    obtain⟨rfl,rfl⟩:=hm
    obtain⟨d,hd,hcv⟩:=under hT hτ
    rw[hds]at hcv
    refine⟨k,el,κ,?_,hκ,hk,hφ⟩
    cases d<;>simp[conv]at hcv
    obtain⟨rfl,rfl⟩:=hcv
    exact hd
   ·cases hm
  ·cases hm
 ·cases hm
theorem Inv.key (hI:Inv N M L w0 blk V t h a w) {i:Operand} {n:bV} (hk:U0 (Am.ev t i)=some n):a.eval i=jx n:=by
 have hr:=hI.ev i
 generalize Am.ev t i=d at *
 unfold U0 at hk
 split at hk
 ·simp only[afE]at hk
  subst hk
  exact ky hr
 ·simp only[afE]at hk
  subst hk
  have hr':RP w (Own M h blk) (.agg _) (a.eval i):=hr
  generalize a.eval i=u at hr'
  cases hr' with
  | agg xs us h1 h2 h3 =>
   match us,h1 with
   | [u1,u2],_ =>
    have e1:=h2 0 _ rfl
    have e2:=h2 1 _ rfl
    simp only[agA,agB]at e1 e2
    cases e1
    cases e2
    rfl
 ·cases hk
theorem wK (hT:gm P T) {kt:Nat} {κ:Ty} (hκ:T kt=some κ) (hk:s7 T κ=some true):∃(F:Array Field) (f1 f2:Field) (α β:Ty),P.underlying kt=some (.struct F)∧F.toList=[f1,f2]∧f1.offset=0∧f2.offset=1∧T f1.type=some α∧T f2.type=some β∧α.ds=.int .i64∧β.ds=.int .i64∧P.stoodInHeld kt=false∧f1.name ≠ "_"∧f2.name ≠ "_":=by
 obtain⟨a,b,α,β,hds,hα,hβ,h1,h2,hq⟩:=U2 hk
 obtain⟨d,hd,hc⟩:=under hT hκ
 rw[hds]at hc
 obtain⟨F,rfl,hF⟩:=fU hc
 obtain⟨q1,q2,q3⟩:=(hT kt κ hκ).eqs hq
 rw[hd]at q3
 simp only at q3
 have hlen:F.toList.length=2:=by simpa using congrArg List.length hF
 match hL:F.toList,hlen with
 | [f1,f2],_ =>
  rw[hL]at hF
  simp only[afB,agk,afT,Prod.mk.injEq,and_true]at hF
  obtain⟨⟨rfl,o1⟩,⟨rfl,o2⟩⟩:=hF
  have hn:∀f∈F.toList,f.name ≠ "_":=by
   intro f hf
   have:=Array.all_eq_true_iff_forall_mem.1 q3 f (by simpa using hf)
   simpa using this
  exact⟨F,f1,f2,α,β,hd,hL,o1,o2,hα,hβ,h1,h2,q1,hn f1 (by rw[hL];simp),hn f2 (by rw[hL];simp)⟩
theorem VH (hT:gm P T) {kt:Nat} {κ:Ty} (hκ:T kt=some κ) (hk:s7 T κ=some true) (a b c d:Int):(Op.equal kt (.agg #[.int .i64 a,.int .i64 b]) (.agg #[.int .i64 c,.int .i64 d])).run P w=.ok (a==c&&b==d) w:=by
 obtain⟨F,f1,f2,α,β,hd,hL,o1,o2,hα,hβ,h1,h2,q1,n1,n2⟩:=wK hT hκ hk
 refine run_equalIn_struct (us:=[.int .i64 a,.int .i64 b]) (vs:=[.int .i64 c,.int .i64 d]) 9998 hd q1 ?_
 refine wJ (P:=P) (w:=w) hT 9998 (M':=fun _=>False) F.toList 0 [.int .i64 a,.int .i64 b] [.int .i64 c,.int .i64 d] _ ?_ ?_ ?_ ?_ ?_
 ·rw[hL]
  intro f hf
  simp only[afC,agC,or_false]at hf
  rcases hf with rfl|rfl
  ·exact n1
  ·exact n2
 ·rw[hL]
  simp[eA,o1,o2,hα,hβ,h1,h2,kindOk]
 ·simp[SM,Px]
 ·intro j x hj
  match j,hj with
  | 0,hj=>simp only[List.getElem?_cons_zero,afE]at hj;subst hj;exact⟨.int _ _,by simp⟩
  | 1,hj=>simp only[List.getElem?_cons_succ,List.getElem?_cons_zero,afE]at hj;subst hj;exact⟨.int _ _,by simp⟩
  | j+2,hj=>simp at hj
 ·intro j x hj
  match j,hj with
  | 0,hj=>simp only[List.getElem?_cons_zero,afE]at hj;subst hj;exact⟨.int _ _,by simp⟩
  | 1,hj=>simp only[List.getElem?_cons_succ,List.getElem?_cons_zero,afE]at hj;subst hj;exact⟨.int _ _,by simp⟩
  | j+2,hj=>simp at hj
theorem zp {k:bV} (h:(FM k==true)=true):∃a b,k=(a,some b):=by
 obtain⟨a,x⟩:=k
 cases x with
 | none=>simp[FM]at h
 | some b=>exact⟨a,b,rfl⟩
theorem tC (hT:gm P T) {kt:Nat} {κ:Ty} (hκ:T kt=some κ) (hk:s7 T κ=some true) {n:bV} (hn:(FM n==true)=true):∀(ks:List bV) (l:List MapEntry) (us:Nat->Value) (i:Nat),l.length=ks.length->ks.all (fun k=>FM k==true)=true->(∀j k,ks[j]? = some k->∃e:MapEntry,l[j]? = some e∧e.key=jx k∧e.val=us j) ->
  (Instr.findAsking kt (jx n) l i).run P w=.ok (if ks.contains n then some (i+ks.idxOf n,us (ks.idxOf n)) else none) w
 | [],[],_,_,_,_,_=>by simp[Instr.findAsking]
 | k::ks,e::l,us,i,hl,hb,h=>by
  simp only[List.all_cons,af6]at hb
  obtain⟨e',h1,h2,h3⟩:=h 0 k rfl
  simp only[List.getElem?_cons_zero,afE]at h1
  subst h1
  have ih:=tC hT hκ hk hn ks l (fun j=>us (j+1)) (i+1) (by simpa using hl) hb.2 (fun j k hj=>by simpa using h (j+1) k (by simpa using hj))
  obtain⟨a,b,rfl⟩:=zp hn
  obtain⟨c,d,rfl⟩:=zp hb.1
  have heq:=VH (P:=P) (w:=w) hT hκ hk a b c d
  have hkk:(((a,some b):bV)==(c,some d))=(a==c&&b==d):=by
   rw[Bool.eq_iff_iff,beq_iff_eq,af6,beq_iff_eq,beq_iff_eq]
   constructor
   ·intro h;injection h with h1 h2;injection h2 with h2;exact⟨h1,h2⟩
   ·rintro⟨rfl,rfl⟩;rfl
  have hkk2:(((c,some d):bV)==(a,some b))=(a==c&&b==d):=by
   rw[Bool.eq_iff_iff,beq_iff_eq,af6,beq_iff_eq,beq_iff_eq]
   constructor
   ·intro h;injection h with h1 h2;injection h2 with h2;exact⟨h1.symm,h2.symm⟩
   ·rintro⟨rfl,rfl⟩;rfl
  simp only[Instr.findAsking,jx,af2,h2,heq,Result.andThen_ok,agx,agw,hkk,hkk2]
  cases hq:(a==c&&b==d) with
  | true=>simp[h3]
  | false =>
   simp only[af5,if_false,agy,cond_false]
   simp only[jx]at ih
   rw[ih]
   have e1:i+1+List.idxOf ((a,some b):bV) ks=i+(List.idxOf ((a,some b):bV) ks+1):=by omega
   rw[e1]
theorem Kh (hT:gm P T) {kt:Nat} {κ:Ty} (hκ:T kt=some κ) (hk:s7 T κ=some true) (a b:Int) (em:Bool):(Instr.checkKey em 10000 kt (.agg #[.int .i64 a,.int .i64 b])).run P w=.ok () w:=by
 obtain⟨F,f1,f2,α,β,hd,hL,o1,o2,hα,hβ,h1,h2,q1,n1,n2⟩:=wK hT hκ hk
 obtain⟨d1,hd1,hc1⟩:=under hT hα
 obtain⟨d2,hd2,hc2⟩:=under hT hβ
 rw[h1]at hc1
 rw[h2]at hc2
 have e1:d1=.int .i64:=by cases d1<;>simp[conv]at hc1;subst hc1;rfl
 have e2:d2=.int .i64:=by cases d2<;>simp[conv]at hc2;subst hc2;rfl
 subst e1 e2
 have p1:(part f1.type #[Value.int .i64 a,.int .i64 b] f1.offset).run P w=.ok (.int .i64 a) w:=by
  simp[part,af2,ko (hT _ _ hα),h1,Ds.nd,o1,Result.andThen]
 have p2:(part f2.type #[Value.int .i64 a,.int .i64 b] f2.offset).run P w=.ok (.int .i64 b) w:=by
  simp[part,af2,ko (hT _ _ hβ),h2,Ds.nd,o2,Result.andThen]
 have c1:=MapKept.run_checkKey (w:=w) hd1 (show MapKept.IsKey (.int .i64) (.int .i64 a) from rfl) em 9998
 have c2:=MapKept.run_checkKey (w:=w) hd2 (show MapKept.IsKey (.int .i64) (.int .i64 b) from rfl) em 9998
 rw[Instr.checkKey]
 simp only[af2,run_underlying hd,Result.andThen_ok]
 rw[<- Array.forIn_toList,hL]
 simp[List.forIn_cons,af2,n1,n2,p1,p2,c1,c2,Result.andThen]
theorem OO (hT:gm P T) {kt:Nat} {κ:Ty} {b:Bool} (hκ:T kt=some κ) (hk:s7 T κ=some b) {n:bV} {ks:List bV} (hb:kJ b n ks=true) {l:List MapEntry} {us:Nat->Value} (hl:l.length=ks.length) (h:∀j k,ks[j]? = some k->∃e:MapEntry,l[j]? = some e∧e.key=jx k∧e.val=us j) :
  (∀em,(Instr.checkKey em 10000 kt (jx n)).run P w=.ok () w)∧(Instr.findKey kt (jx n) l).run P w=.ok (if ks.contains n then some (ks.idxOf n,us (ks.idxOf n)) else none) w∧(Instr.keyThatStays (jx n) (jx n)).run P w=.ok (jx n) w:=by
 simp only[kJ,af6]at hb
 cases b with
 | false =>
  obtain⟨n,x⟩:=n
  cases x with
  | some y=>simp[FM]at hb
  | none =>
   obtain⟨d,hd,hc⟩:=under hT hκ
   rw[U1 hk]at hc
   have hdm:d=.int .i64:=by cases d<;>simp[conv]at hc;subst hc;rfl
   subst hdm
   have hkey:MapKept.IsKey (.int .i64) (.int .i64 n):=rfl
   exact⟨fun em=>MapKept.run_checkKey (w:=w) hd hkey em 9999,MapKept.run_findKey (w:=w) hd (Mh n ks l us hl hb.2 h),MapKept.run_keyThatStays (P:=P) (w:=w) hkey⟩
 | true =>
  obtain⟨F,f1,f2,α,β,hd,_⟩:=wK hT hκ hk
  have hfa:=tC (P:=P) (w:=w) hT hκ hk hb.1 ks l us 0 hl hb.2 h
  obtain⟨x,y,rfl⟩:=zp hb.1
  refine⟨fun em=>Kh hT hκ hk x y em,?_,?_⟩
  ·rw[agj]at hfa
   unfold Instr.findKey
   simp only[af2,run_underlying hd,Result.andThen_ok]
   cases l with
   | nil =>
    cases ks with
    | nil=>simp[Instr.findNow]
    | cons _ _=>simp at hl
   | cons e l =>
    have:Instr.findNow (.struct F) (jx (x,some y)) (e::l) 0=none:=by simp[Instr.findNow,Instr.sameNow]
    rw[this]
    exact hfa
  ·simp[Instr.keyThatStays,jx,Instr.sameBits]
theorem zeroV (hT:gm P T) {ty:Nat} {φ:Ty} {z:D} (hφ:T ty=some φ) (hz:iB φ (φ.zero.map kW)=some z) (hp:(φ.zero.map kW).all aS=true) (w:World) (M:Nat->Prop):∃zv,(zeroValue ty).run P w=.ok zv w∧RP w M z zv:=by
 have hτ:=hT ty φ hφ
 obtain⟨d,i,zv,h1,h2,h3,h4,h5,h6,h7⟩:=hτ.get
 have ha:=hτ.agg
 rw[h3]at ha
 simp only[Option.map_some,h6,afE]at ha
 refine⟨zv,by simp[zeroValue,typeInfo,h3,h6],?_⟩
 have hc:=fun j x hj=>ou φ.zero hp (w:=w) (M:=M) j x hj
 unfold iB at hz
 rw[<- ha]at hz
 cases zv with
 | agg cs =>
  simp only[Qu,if_true,afE]at hz
  subst hz
  simp only[Value.cells]at h7
  subst h7
  refine .agg _ φ.zero (by simp) (fun j x hj =>?_) (fun x hx =>?_)
  ·have:=(hc j x hj).2
   simpa [afA,af8] using this
  ·obtain⟨j,hj⟩:=afR hx
   exact (hc j x hj).1
 | _ =>
  simp only[Qu,af5,if_false]at hz
  split at hz
  ·rename_i d hd
   simp only[afE]at hz
   subst hz
   have hc0:=(hc 0 d (by rw[hd];rfl)).2
   rw[<- h7]at hc0
   simpa [Value.cells] using hc0
  ·cases hz
theorem Inv.Te (hI:Inv N M L w0 blk V t h a w) {m:D} {u:Value} {ks:List bV} {vs:List D} (hm:mapOf h m=some (ks,vs)) (hr:RT w (Own M h blk) h blk V m u) :
  vs.length=ks.length∧∃(ents:Array MapEntry) (us:Nat->Value),ents.size=ks.length∧((u=.map none∧ents = #[])∨∃b clock,u=.map (some b)∧w.heap[b]? = some (.map ents clock))∧(∀j k,ks[j]? = some k->∃e:MapEntry,ents[j]? = some e∧e.key=jx k∧e.val=us j)∧∀j x,vs[j]? = some x->RP w (Own M h blk) x (us j):=by
 cases m with
 | mp x v =>
  simp only[mapOf]at hm
  obtain⟨g,r,h1,h2,h3,h4,h5,rfl,h6,ents,clock,h7,h8,_,us,h9,h10⟩:=hI.NN hm hr
  exact⟨h6,ents,us,h8,.inr ⟨g.1,clock,rfl,h7⟩,h9,h10⟩
 | mpc ks' vs' =>
  simp only[mapOf,afE,Prod.mk.injEq]at hm
  obtain⟨rfl,rfl⟩:=hm
  have hr':RP w (Own M h blk) (.mpc ks' vs') u:=hr
  cases hr' with
  | mpc _ _ mb us h1 h2 h3 h4 =>
   refine⟨h1,?_⟩
   cases mb with
   | none =>
    have:=h2 rfl
    subst this
    exact⟨#[],us,rfl,.inl ⟨rfl,rfl⟩,fun j k hj=>by simp at hj,h4⟩
   | some b =>
    obtain⟨k1,k2,ents,clock,k3,k4,k5⟩:=h3 b rfl
    exact⟨ents,us,k4,.inr ⟨b,clock,rfl,k3⟩,k5,h4⟩
 | _=>simp[mapOf]at hm
theorem Jm (hT:gm P T) (hI:Inv N M L w0 blk V t h a w) {ty d:Nat} {τ:Ty} {E:bt} (ho:o.op=.makeMap ty none) (hd:o.dst=some d) (hV:gR N V d e) (hτ:T ty=some τ) (hE:ln T ty τ e d=some E):dz P o a w (aV N M L w0 V t h a e o.dst E):=by
 unfold ln at hE
 split at hE
 ·split at hE
  ·cases hE
  rename_i hty
  simp only[afE]at hE
  subst hE
  have hb:=(Below.refl w.heap.size w).alloc (afv _) (.map #[] 0)
  have hI':=hI.BS (w':=w.alloc (.map #[] 0)) (h1:=h) (old:=none) (d:=d) (e:=e) (r0:=⟨e,ty,[.mpc [] []],false,true,true⟩) (go:=some (w.heap.size,0)) hb.os hb.tape hb.output hb.size (fun k hk _=>Below.heap_alloc w _ k hk) (fun y hy=>by cases hy) rfl hV
   ⟨.inl (afv _),by
    refine .inl ?_
    exact⟨[],[],rfl,rfl,fun _=>⟨#[],0,heap_alloc_new w _,rfl,MapKept.stamped_empty 0,fun _=>undef,fun j k hj=>by simp at hj,fun j x hj=>by simp at hj⟩,fun hq=>absurd hq hty⟩⟩ rfl rfl (fun _ _ _ j x s n h=>by cases j<;>simp at h)
  refine aD (v := .map (some w.heap.size)) (w':=w.alloc (.map #[] 0)) ?_ ⟨bz blk d (some (w.heap.size,0)),?_,?_⟩
  ·simp[execOp,ho,Instr.makeMap,Result.andThen]
  ·refine hI'.weaken fun x v hx =>?_
   rcases hx with hx|⟨rfl,rfl⟩
   ·exact .inl hx
   ·exact .inr ⟨hd,rfl⟩
  ·exact⟨.inr ⟨hd,rfl⟩,fun _ _ _=>⟨(w.heap.size,0),aq _ _ _,rfl⟩⟩
 ·cases hE
theorem LV (hT:gm P T) (hI:Inv N M L w0 blk V t h a w) {ty:Nat} {m i:Operand} {ok:Bool} {τ:Ty} {E:bt} (ho:o.op=.lookup ty m i ok) (hτ:T ty=some τ) (hE:fu T τ h (ev t m) (ev t i) ok=some E):dz P o a w (aV N M L w0 V t h a e o.dst E):=by
 unfold fu at hE
 split at hE
 ·rename_i b φ ks vs n hmt hmo hi
  split at hE
  ·rename_i z hz
   split at hE
   ·rename_i hcond
    obtain⟨hkb,hpl⟩:=hcond
    simp only[afE]at hE
    subst hE
    obtain⟨kt,et,κ,hu1,hκ,hkt,hφ⟩:=An hT hτ hmt
    obtain⟨hlen,ents,us,hsz,hmap,hk,hv⟩:=hI.Te hmo (hI.ev m)
    have hiu:a.eval i=jx n:=hI.key hi
    obtain⟨zv,hzr,hzp⟩:=zeroV hT hφ hz hpl w (Own M h blk)
    obtain⟨hck',hfk,_⟩:=OO (P:=P) (w:=w) hT hκ hkt hkb (l:=ents.toList) (us:=us) (by simpa using hsz) (fun j k hj=>by simpa using hk j k hj)
    have hck:=hck' ents.isEmpty
    have hl:=Nt (eX z) n ks vs hlen
    have hrun:(execOp a.eval o).run P w=.ok (.value (if ok then .tuple #[if ks.contains n then us (ks.idxOf n) else zv,.bool (ks.contains n)] else if ks.contains n then us (ks.idxOf n) else zv)) w:=by
     rcases hmap with⟨hm0,rfl⟩|⟨b,clock,hmb,hheap⟩
     ·have hk0:ks=[]:=by simpa using hsz.symm
      subst hk0
      simp only[List.contains_nil,af5,if_false]at hfk ⊢
      cases ok<;>simp[execOp,ho,Instr.lookup,run_underlying hu1,hm0,hiu,hck,hfk,hzr,Result.andThen]<;>simp_all
     ·have hgo:=MapKept.run_getObj_map (P:=P) hheap
      cases hc:ks.contains n with
      | true =>
       rw[hc]at hfk
       simp only[if_true]at hfk
       cases ok<;>simp[execOp,ho,Instr.lookup,run_underlying hu1,hmb,hiu,hgo,hck,hfk,Result.andThen]
      | false =>
       rw[hc]at hfk
       simp only[af5,if_false]at hfk
       cases ok<;>simp[execOp,ho,Instr.lookup,run_underlying hu1,hmb,hiu,hgo,hck,hfk,hzr,Result.andThen]
    have hres:RP w (Own M h blk) (nV (eX z) ks vs n) (if ks.contains n then us (ks.idxOf n) else zv):=by
     rw[hl]
     split
     ·rename_i hc
      have hlt:ks.idxOf n<vs.length:=by rw[hlen];exact agE (by simpa using hc)
      refine hv _ _ ?_
      simp[af8,hlt]
     ·exact hzp.eX
    refine aD hrun (aV.de hI ?_)
    cases ok with
    | false=>exact bo hres
    | true =>
     refine bo (.tup _ [_,_] rfl fun j x hj =>?_)
     match j,hj with
     | 0,hj=>simp only[List.getElem?_cons_zero,afE]at hj;subst hj;exact hres
     | 1,hj=>simp only[List.getElem?_cons_succ,List.getElem?_cons_zero,afE]at hj;subst hj;exact .bool _
     | j+2,hj=>simp at hj
   ·cases hE
  ·cases hE
 ·cases hE
theorem Inv.si (hI:Inv N M L w0 blk V t h a w) {d d':D} {fr:List Nat} {u:Value} {M':Nat->Prop} (hc:si h d=some (d',fr)) (hl:mE M h blk fr M') (hr:RT w (Own M h blk) h blk V d u):RP w M' d' u:=by
 have hk:∀b,b<w.heap.size->¬Own M h blk b->b<w.heap.size∧¬M' b∧w.heap[b]? = w.heap[b]?:=fun b h1 h2=>⟨h1,fun hb=>h2 (hl.le b hb),rfl⟩
 have one:∀d,Am.si h d=(match Am.cY h d with|some (d',fr)=>some (canon d',fr)|none=>none)->Am.si h d=some (d',fr)->RT w (Own M h blk) h blk V d u->RP w M' d' u:=by
  intro d he hc hr
  rw[he]at hc
  split at hc
  ·rename_i d1 fr1 h1
   simp only[afE,Prod.mk.injEq]at hc
   obtain⟨rfl,rfl⟩:=hc
   exact (hI.cY h1 hl hr).1.canon
  ·cases hc
 cases d with
 | agg xs =>
  simp only[Am.si,afE,Prod.mk.injEq]at hc
  obtain⟨rfl,rfl⟩:=hc
  exact (RP.keep hk (show RP w (Own M h blk) (.agg xs) u from hr)).eX
 | _=>exact one _ rfl hc hr
theorem Yw (ks:List bV) (vs:List D) (n:bV) (d:D) (h:vs.length=ks.length):(Bh ks vs n d).length=(wG ks n).length:=by
 unfold Bh wG
 split<;>simp[h]
theorem sP (hT:gm P T) (hI:Inv N M L w0 blk V t h a w) {ty:Nat} {m i x:Operand} {τ:Ty} {E:bt} (ho:o.op=.mapUpdate ty m i x∨o.op=.insert ty m i x) (hτ:T ty=some τ) (hE:cg T τ h (ev t m) (ev t i) (ev t x)=some E):dz P o a w (aV N M L w0 V t h a e o.dst E):=by
 have hm:=hI.ev m
 unfold cg at hE
 split at hE
 ·rename_i b φ y v n d fr hmt hmo hi hval
  rw[hmo]at hm
  split at hE
  ·rename_i r hr
   split at hE
   ·rename_i ks vs hlm
    split at hE
    ·rename_i hcond
     obtain⟨hkb,hfz,hnf⟩:=hcond
     simp only[afE]at hE
     subst hE
     obtain⟨kt,et,κ,hu1,hκ,hkt,hφ⟩:=An hT hτ hmt
     have hiu:a.eval i=jx n:=hI.key hi
     have hIf:=hI.freeze fr
     have hvp:=hI.si hval (hI.eO fr) (hI.ev x)
     obtain⟨g,r',h1,h2,h3,h4,h5,hmu,_⟩:=hI.NN hlm hm
     rw[hr]at h1
     simp only[afE]at h1
     subst h1
     have hr1:aH h (gG h fr) y=some r:=by rw[yX hnf];exact hr
     have hi2:=hIf.rowIs hr1 h5
     unfold du at hi2
     rw[h3]at hi2
     rcases hi2 with hi2|⟨hi2,_⟩
     rotate_left
     ·rw[h4]at hi2
      have:=hi2 _ (afS.2 rfl)
      cases this
     obtain⟨ks',vs',i1,hlen,hAA,_⟩:=hi2
     have hty:r.ty<900000:=by
      obtain⟨r3,z1,_,_,_,z5⟩:=Dv hlm
      rw[hr]at z1
      cases z1
      exact z5
     obtain⟨ents,clock,hheap,hsz,hst,us,hk,hv⟩:=hAA hty
     rw[h4]at i1
     simp only[afT,D.mpc.injEq,and_true]at i1
     obtain⟨rfl,rfl⟩:=i1
     obtain⟨hck',hfk,hks⟩:=OO (P:=P) (w:=w) hT hκ hkt hkb (l:=ents.toList) (us:=us) (by simpa using hsz) (fun j k hj=>by simpa using hk j k hj)
     have hck:=hck' false
     have hgo:=MapKept.run_getObj_map (P:=P) hheap
     have hlt:g.1<w.heap.size:=(afz.1 hheap).1
     have key:∃(ents':Array MapEntry) (clock':Nat) (us':Nat->Value),(execOp a.eval o).run P w=.ok .skip { w with heap:=w.heap.setIfInBounds g.1 (.map ents' clock') }∧ents'.size=(wG ks n).length∧MapKept.Stamped ents' clock'∧(∀j k,(wG ks n)[j]? = some k->∃e:MapEntry,ents'[j]? = some e∧e.key=jx k∧e.val=us' j)∧∀j z,(Bh ks vs n d)[j]? = some z->RP w (Own M (aH h (gG h fr)) blk) z (us' j):=by
      cases hc:ks.contains n with
      | true =>
       rw[hc]at hfk
       simp only[if_true]at hfk
       have hj:ks.idxOf n<ks.length:=agE (by simpa using hc)
       have hkn:ks[ks.idxOf n]? = some n:=by rw[afI hj];simp
       obtain⟨e0,q1,q2,q3⟩:=hk _ _ hkn
       have hgk:(((ents[ks.idxOf n]?).map (·.key)).getD (jx n))=jx n:=by rw[q1];exact q2
       refine⟨ents.modify (ks.idxOf n) (fun e=>{ e with key:=jx n,val:=a.eval x }),clock,fun j=>if j=ks.idxOf n then a.eval x else us j,?_,?_,?_,fun j k hjk =>?_,fun j z hjz =>?_⟩
       ·have hset:=fun ob=>MapKept.run_setObj_map (P:=P) ob hheap
        rcases ho with ho|ho<;>simp[execOp,ho,Instr.mapUpdate,run_underlying hu1,hmu,hiu,hgo,hck,hfk,hgk,hks,hset,Result.andThen]
       ·simp only[Array.size_modify,wG,hc,if_true];exact hsz
       ·exact MapKept.stamped_modify hst _ _ (fun e _=>rfl) (fun e _ he=>by rw[q1]at he;cases he;exact q2.symm)
       ·simp only[wG,hc,if_true]at hjk
        obtain⟨e1,p1,p2,p3⟩:=hk j k hjk
        by_cases hje:ks.idxOf n=j
        ·subst hje
         rw[hkn]at hjk
         simp only[afE]at hjk
         subst hjk
         exact⟨{ e1 with key:=jx n,val:=a.eval x },by simp[afF,p1],rfl,by simp⟩
        ·exact⟨e1,by simp[afF,hje,p1],p2,by rw[p3];exact (if_neg (Ne.symm hje)).symm⟩
       ·simp only[Bh,hc,if_true]at hjz
        rw[List.getElem?_set]at hjz
        by_cases hje:ks.idxOf n=j
        ·subst hje
         simp only[if_true]at hjz
         split at hjz
         ·simp only[afE]at hjz
          subst hjz
          simp only[if_true]
          exact hvp
         ·cases hjz
        ·rw[if_neg hje]at hjz
         simp only[if_neg (Ne.symm hje)]
         exact hv j z hjz
      | false =>
       rw[hc]at hfk
       simp only[af5,if_false]at hfk
       refine⟨ents.push { key:=jx n,val:=a.eval x,born:=clock },clock+1,fun j=>if j<ks.length then us j else a.eval x,?_,?_,?_,fun j k hjk =>?_,fun j z hjz =>?_⟩
       ·have hset:=fun ob=>MapKept.run_setObj_map (P:=P) ob hheap
        rcases ho with ho|ho<;>simp[execOp,ho,Instr.mapUpdate,run_underlying hu1,hmu,hiu,hgo,hck,hfk,hset,Result.andThen]
       ·simp only[Array.size_push,wG,hc,af5,if_false,agF,List.length_cons,List.length_nil];omega
       ·refine MapKept.stamped_push hst fun x hx he =>?_
        obtain⟨j,hj⟩:=afR hx
        have hj':j<ks.length:=by have:=(afY.1 hj).1;simp at this;omega
        obtain⟨e1,p1,p2,_⟩:=hk j _ (afI hj')
        rw[agm,p1]at hj
        cases hj
        have:ks[j]=n:=XM (p2.symm.trans he)
        rw[<- this]at hc
        simp[afH]at hc
       ·simp only[wG,hc,af5,if_false]at hjk
        by_cases hje:j<ks.length
        ·rw[af9 hje]at hjk
         obtain⟨e1,p1,p2,p3⟩:=hk j k hjk
         exact⟨e1,by rw[Array.getElem?_push_lt (by omega)];rw[<- p1];exact (agG (by omega)).symm,p2,by rw[p3];exact (if_pos hje).symm⟩
        ·rw[aga (by omega)]at hjk
         have hj0:j=ks.length:=by
          have:=(afY.1 hjk).1
          simp at this
          omega
         subst hj0
         simp only[agH,List.getElem?_cons_zero,afE]at hjk
         subst hjk
         exact⟨_,by rw[<- hsz];exact Array.getElem?_push_size,rfl,by simp⟩
       ·simp only[Bh,hc,af5,if_false]at hjz
        by_cases hje:j<ks.length
        ·rw[af9 (by omega)]at hjz
         simp only[if_pos hje]
         exact hv j z hjz
        ·rw[aga (by omega)]at hjz
         have hj0:j=vs.length:=by
          have:=(afY.1 hjz).1
          simp at this
          omega
         subst hj0
         simp only[agH,List.getElem?_cons_zero,afE]at hjz
         subst hjz
         simp only[if_neg hje]
         exact hvp
     obtain⟨ents',clock',us',hrun,hsz',hst',hk',hv'⟩:=key
     have hset:=MapKept.heap_set (o' := .map ents' clock') hheap
     have hhs:(w.heap.setIfInBounds g.1 (.map ents' clock')).size=w.heap.size:=by simp
     have hfin:=hIf.iH (hph:=fun _ _ _ j x s n h=>by cases j<;>simp at h) (r0:=⟨r.v,r.ty,[.mpc (wG ks n) (Bh ks vs n d)],false,true,true⟩) (w':={ w with heap:=w.heap.setIfInBounds g.1 (.map ents' clock') }) hr1 hfz rfl rfl rfl rfl (by show w.heap.size<=(w.heap.setIfInBounds g.1 _).size;rw[hhs];exact afv _)
      (fun b _ hb=>hset.2 b (hb g h5)) (by
       rw[h5]
       refine⟨by simp[World.shape?,hset.1,hheap],?_⟩
       refine .inl ?_
       refine⟨_,_,rfl,Yw ks vs n d hlen,fun _=>⟨ents',clock',hset.1,hsz',hst',us',hk',fun j z hjz=>(hv' j z hjz).keep fun b q1 q2=>⟨by show b<(w.heap.setIfInBounds g.1 _).size;rw[hhs];exact q1,q2,hset.2 b (fun e=>q2 (.inr ⟨y,r,g,hr1,hfz,h5,e.symm⟩))⟩⟩,fun hq=>absurd hq (Nat.not_le.2 hty)⟩) (fun hh=>by cases hh)
     refine .inr (.inl ⟨_,hrun,blk,?_,trivial⟩)
     rw[fA]
     exact hfin.weaken fun _ _ h =>.inl h
    ·cases hE
   ·cases hE
  ·cases hE
 ·cases hE
end
section
variable {P:Program} {T:Nat->Option Ty} {N:Nat} {M:Nat->Prop} {L:ik} {w0:World} {blk:Nat->Option (Nat×Nat)} {V:Nat->Nat->Prop} {t:Nat->D} {h:Nat->Option Row} {a:Act} {w:World} {e:Nat} {o:Oper} {Γ:Env}
theorem ka {α:Type} {c:Array α} {l:List α} (h:c.toList=l):c=l.toArray:=by rw[<- h]
theorem Tf {β:Type} {f:Operand->β} {l:List Operand} {p q:β} (h:l.map f=[p,q]):∃s x,l=[s,x]∧f s=p∧f x=q:=by
 match l,h with
 | [s,x],h=>simp only[afB,agk,afT,and_true]at h;exact⟨s,x,rfl,h.1,h.2⟩
theorem aan {β:Type} {f:Operand->β} {l:List Operand} {p:β} (h:l.map f=[p]):∃s,l=[s]∧f s=p:=by
 match l,h with
 | [s],h=>simp only[afB,agk,afT,and_true]at h;exact⟨s,rfl,h⟩
theorem map_cons {β:Type} {f:Operand->β} {l:List Operand} {p:β} {r:List β} (h:l.map f=p::r):∃s l',l=s::l'∧f s=p∧l'.map f=r:=by
 match l,h with
 | s::l',h=>simp only[afB,afT]at h;exact⟨s,l',rfl,h.1,h.2⟩
theorem Ji (hT:gm P T) (hI:Inv N M L w0 blk V t h a w) {c:Call} {b:Builtin} {E:bt} (ho:o.op=.call c) (hc:c.callee=.builtin b) (hV:∀d,o.dst=some d->gR N V d e)
  (hE:b6 T h e o.dst b c.argTypes.toList (c.args.toList.map (ev t))=some E):dz P o a w (aV N M L w0 V t h a e o.dst E):=by
 unfold b6 at hE
 split at hE
 ·rename_i ty tys x htys hargs
  obtain⟨s,hs,rfl⟩:=aan hargs
  have hs':=ka hs
  have ht':=ka htys
  split at hE
  ·rename_i hal
   split at hE
   ·rename_i τ n hτ hn
    have hp:=hI.ev s
    obtain⟨d,hd,hcv⟩:=under hT hτ
    obtain⟨l1,l2⟩:=RT.aeO hI hn hal hp
    have hexec:∀v,(Builtin.len_ c.argTypes o.type #[a.eval s]).run P w=.ok v w->(execOp a.eval o).run P w=.ok (.value v) w:=by
     intro v hr
     simp[execOp,ho,resolve,hc,hs',invoke,builtin,hr]
    have ht0:c.argTypes[0]? = some ty:=by rw[ht'];rfl
    split at hE
    ·rename_i z hds hz
     rw[hz]at l1
     obtain⟨hu,hsz⟩:=l1 _ rfl
     rw[hds]at hcv
     have:=pI hcv
     subst this
     simp only[afE]at hE
     subst hE
     refine aD (hexec (.int .i64 n) ?_) (aV.de hI (bo (.int _ _)))
     simp[Builtin.len_,ht0,run_underlying hd,hu,goInt,hsz]
    ·rename_i el z1 z2 z3 z4 hds hz
     obtain⟨A,k,hu⟩:=l2 (by rw[hz];intro s h;cases h)
     rw[hds]at hcv
     have:=eY hcv
     subst this
     simp only[afE]at hE
     subst hE
     refine aD (hexec (.int .i64 n) ?_) (aV.de hI (bo (.int _ _)))
     simp[Builtin.len_,ht0,run_underlying hd,hu,goInt]
    ·rename_i el z1 z2 z3 z4 z5 hds hz
     obtain⟨A,k,hu⟩:=l2 (by rw[hz];intro s h;cases h)
     rw[hds]at hcv
     have:=eY hcv
     subst this
     simp only[afE]at hE
     subst hE
     refine aD (hexec (.int .i64 n) ?_) (aV.de hI (bo (.int _ _)))
     simp[Builtin.len_,ht0,run_underlying hd,hu,goInt]
    ·cases hE
   ·rename_i τ hτ hn
    split at hE
    ·rename_i k el ks vs' hds hmo
     obtain⟨d,hd,hcv⟩:=under hT hτ
     rw[hds]at hcv
     have hdm:d=.map k el:=by
      cases d<;>simp[conv]at hcv
      obtain⟨rfl,rfl⟩:=hcv
      rfl
     subst hdm
     simp only[afE]at hE
     subst hE
     obtain⟨hlen,ents,us,hsz,hmap,hk,hv⟩:=hI.Te hmo (hI.ev s)
     have ht0:c.argTypes[0]? = some ty:=by rw[ht'];rfl
     refine aD (v := .int .i64 (ks.length:Nat)) (w':=w) ?_ (aV.de hI (bo (.int _ _)))
     rcases hmap with⟨hm0,rfl⟩|⟨b,clock,hmb,hheap⟩
     ·have hk0:ks.length=0:=by simpa using hsz.symm
      simp[execOp,ho,resolve,hc,hs',invoke,builtin,Builtin.len_,ht0,run_underlying hd,hm0,goInt,hk0]
     ·have hgo:=MapKept.run_getObj_map (P:=P) hheap
      simp[execOp,ho,resolve,hc,hs',invoke,builtin,Builtin.len_,ht0,run_underlying hd,hmb,hgo,goInt,hsz,Result.andThen]
    ·cases hE
   ·cases hE
  ·cases hE
 ·rename_i ty ty' p q htys hargs
  obtain⟨s,x,hs,rfl,rfl⟩:=Tf hargs
  split at hE
  ·rename_i htt
   subst htt
   split at hE
   ·rename_i τ d hτ hd
    exact LU hT hI ho hc (ka hs) (ka htys) hd (hV d hd) hτ hE
   ·cases hE
  ·cases hE
 ·rename_i k x r hargs
  obtain⟨s,l,hs,h1,h2⟩:=map_cons hargs
  split at hE
  ·rename_i z hz
   simp only[afE]at hE
   subst hE
   have hu:a.eval s=.int k x:=by have:=hI.ev s;rw[h1]at this;exact ky this
   have hr:=OP (P:=P) (w:=w) (M:=M) (blk:=blk) (V:=V) (h:=h) k r (l.map a.eval) x z hz (by rw[<- h2];simp) (fun j d hj=>by
    rw[<- h2,afs]at hj
    cases hx:l[j]? with
    | none=>simp[hx]at hj
    | some y =>
     simp only[hx,Option.map_some,afE]at hj
     subst hj
     have:(l.map a.eval).getD j undef=a.eval y:=by simp[List.getD,hx]
     rw[this];exact hI.ev y)
   refine aD (v := .int k z) (w':=w) ?_ (aV.de hI (bo (.int _ _)))
   have hargs':c.args.map a.eval=(Value.int k x::l.map a.eval).toArray:=by rw[ka hs];simp[hu]
   simp[execOp,ho,resolve,hc,hargs',invoke,builtin,Builtin.max_,hr]
  ·cases hE
 ·rename_i k x r hargs
  obtain⟨s,l,hs,h1,h2⟩:=map_cons hargs
  split at hE
  ·rename_i z hz
   simp only[afE]at hE
   subst hE
   have hu:a.eval s=.int k x:=by have:=hI.ev s;rw[h1]at this;exact ky this
   have hr:=OQ (P:=P) (w:=w) (M:=M) (blk:=blk) (V:=V) (h:=h) k r (l.map a.eval) x z hz (by rw[<- h2];simp) (fun j d hj=>by
    rw[<- h2,afs]at hj
    cases hx:l[j]? with
    | none=>simp[hx]at hj
    | some y =>
     simp only[hx,Option.map_some,afE]at hj
     subst hj
     have:(l.map a.eval).getD j undef=a.eval y:=by simp[List.getD,hx]
     rw[this];exact hI.ev y)
   refine aD (v := .int k z) (w':=w) ?_ (aV.de hI (bo (.int _ _)))
   have hargs':c.args.map a.eval=(Value.int k x::l.map a.eval).toArray:=by rw[ka hs];simp[hu]
   simp[execOp,ho,resolve,hc,hargs',invoke,builtin,Builtin.min_,hr]
  ·cases hE
 ·cases hE
theorem Wf {h:Nat->Option Row} {d:D} {u:Value} {M':Nat->Prop} (hc:im d=true) (hr:RT w M' h blk V d u):RC w M' h blk V d u:=by
 cases d with
 | buf _ _ _ _ _=>simp[im]at hc
 | clo _ _ _=>simp[im]at hc
 | und=>simp[im]at hc
 | skp=>simp[im]at hc
 | box1 _ _ _ _ _=>simp[im]at hc
 | _=>exact hr
theorem Fa (hI:Inv N M L w0 blk V t h a w) {f:Nat} {first caps:Array Operand} (ho:o.op=.makeFunc (.func f) first caps) (hc:(first.toList.map (ev t)++caps.toList.map (ev t)).all im=true) :
  dz P o a w (aV N M L w0 V t h a e o.dst ⟨.clo f first.size (first.toList.map (ev t)++caps.toList.map (ev t)),[]⟩):=by
 refine aD (v := .func (.func f) (first.map a.eval) (caps.map a.eval)) (w':=w) ?_ (aV.de hI ?_)
 ·simp[execOp,ho,Instr.makeFunc]
 ·refine⟨first.toList.map a.eval++caps.toList.map a.eval,?_,by simp,fun j x hj =>?_⟩
  ·rw[List.take_left' (by simp),List.drop_left' (by simp),<- agp,<- agp]
  rw[afG]at hc
  have hcx:=hc x (afX hj)
  rw[<- List.map_append,afs,aft]at hj
  obtain⟨q,hq,rfl⟩:=hj
  have:(first.toList.map a.eval++caps.toList.map a.eval).getD j undef=a.eval q:=by rw[<- List.map_append];simp only[af8,afs,hq];rfl
  rw[this]
  exact Wf hcx (hI.ev q)
theorem UM (hT:gm P T) (hΓ:bA P Γ) (hI:Inv N M L w0 blk V t h a w) (hV:∀d,o.dst=some d->gR N V d e) (hP:∀x v,V x v->x<N∨2*PK<=x) {E:bt} (hE:kZ T Γ e o (ev t) h=some E):dz P o a w (aV N M L w0 V t h a e o.dst E):=by
 unfold kZ at hE
 split at hE
 ·rename_i x ho
  simp only[afE]at hE;subst hE
  exact GP hI (.inl ho)
 ·rename_i x ho
  exact W4 hI ho hV hE
 ·rename_i c x y ho
  split at hE
  ·rename_i hc
   simp only[afE]at hE;subst hE
   exact GQ (b:=true) hI ho hc
  ·rename_i hc
   simp only[afE]at hE;subst hE
   exact GQ (b:=false) hI ho hc
  ·cases hE
 ·rename_i ty ho
  split at hE
  ·rename_i τ d hτ hd
   split at hE
   ·rename_i hz
    simp only[afE]at hE;subst hE
    exact PM (hint:=Γ.hint) hT hI ho hd hτ (hV d hd) hz
   ·cases hE
  ·cases hE
 ·rename_i ty x ho
  split at hE
  ·rename_i d cs fr hd hc
   split at hE
   ·simp only[afE]at hE;subst hE
    exact W6 hI ho hd (hV d hd) hc
   ·cases hE
  ·cases hE
 ·rename_i ty p ho
  split at hE
  ·rename_i τ hτ
   exact aaf hT hI ho hτ hE
  ·cases hE
 ·rename_i ty p x ho
  split at hE
  ·rename_i τ hτ
   exact Xf hT hI hP ho hτ hE
  ·cases hE
 ·rename_i x ho
  exact Xc hI ho hE
 ·rename_i ty x i ho
  split at hE
  ·rename_i τ hτ
   exact Cu hT hI ho hτ hE
  ·cases hE
 ·rename_i ty x i ho
  split at hE
  ·rename_i τ hτ
   exact PQ hT hI ho hτ hE
  ·cases hE
 ·rename_i ty x i ho
  split at hE
  ·rename_i τ hτ
   exact Cv hT hI ho hτ hE
  ·cases hE
 ·rename_i ty x i ho
  split at hE
  ·rename_i τ hτ
   exact PR hT hI ho hτ hE
  ·cases hE
 ·rename_i ty x lo hi mx ho
  split at hE
  ·rename_i τ hτ
   exact PT hT hI ho hτ hE
  ·cases hE
 ·rename_i ty parts ho
  split at hE
  ·rename_i τ hτ
   exact W5 hT hI ho hτ hE
  ·cases hE
 ·rename_i ty len parts ho
  split at hE
  ·rename_i τ d hτ hd
   exact A1 hT hI ho hd (hV d hd) hτ hE
  ·cases hE
 ·rename_i ty l c ho
  split at hE
  ·rename_i τ d hτ hd
   exact UG hT hI ho hd (hV d hd) hτ hE
  ·cases hE
 ·rename_i op ty x y ty' ho
  split at hE
  ·rename_i d hd
   simp only[afE]at hE;subst hE
   exact PN hT hI ho hd
  ·cases hE
 ·rename_i op ty x ho
  split at hE
  ·rename_i d hd
   simp only[afE]at hE;subst hE
   exact UJ hI ho hd
  ·cases hE
 ·rename_i src dst x ho
  split at hE
  ·rename_i τ k n σ hτ hσ hx
   split at hE
   ·rename_i k' hds
    simp only[afE]at hE;subst hE
    exact Jj hT hI ho hτ hσ hds hx
   ·cases hE
  ·cases hE
 ·rename_i fn first caps ho
  split at hE
  ·split at hE
   ·rename_i hc
    simp only[afE]at hE;subst hE
    exact Fa hI ho hc
   ·cases hE
  ·cases hE
 ·rename_i ty ho
  split at hE
  ·rename_i τ d hτ hd
   exact Jm hT hI ho hd (hV d hd) hτ hE
  ·cases hE
 ·rename_i ty m i ok ho
  split at hE
  ·rename_i τ hτ
   exact LV hT hI ho hτ hE
  ·cases hE
 ·rename_i ty m i x ho
  split at hE
  ·rename_i τ hτ
   exact sP hT hI (.inr ho) hτ hE
  ·cases hE
 ·rename_i ty m i x ho
  split at hE
  ·rename_i τ hτ
   exact sP hT hI (.inl ho) hτ hE
  ·cases hE
 ·rename_i x i ho
  split at hE
  ·rename_i xs hx
   split at hE
   ·rename_i d hd
    simp only[afE]at hE;subst hE
    exact Jk hI ho hx hd
   ·cases hE
  ·cases hE
 ·rename_i c ho
  split at hE
  ·rename_i f hc
   exact UE hΓ hI ho hc hV hP hE
  ·rename_i b hc
   exact Ji hT hI ho hc hV hE
  ·cases hE
 ·cases hE
end
section
variable {T:Nat->Option Ty} {h h':Nat->Option Row} {e:Nat} {o:Oper} {Γ:Env}
theorem cq {x v:Nat} (hx:h x=h' x):live h x v=live h' x v:=by simp[live,hx]
theorem iA {x v:Nat} (hx:h x=h' x):ma h x v=ma h' x v:=by simp[ma,hx]
theorem mc {x v:Nat} (hx:h x=h' x):fV h x v=fV h' x v:=by simp[fV,hx]
theorem Ng {d:D} {x v:Nat} (hx:h x=h' x):xF d h x v=xF d h' x v:=by unfold xF wz;rw[cq hx,hx]
theorem kD {d:D} (hx:∀x∈nm d,h x=h' x):cY h d=cY h' d:=by
 cases d<;>try rfl
 rename_i x v s o n
 simp only[cY]
 rw[cq (hx x (by simp[nm,fO]))]
theorem E9 {d:D} (hx:∀x∈nm d,h x=h' x):content h d=content h' d:=by
 cases d<;>try rfl
 rename_i x v s o n
 simp only[content]
 rw[cq (hx x (by simp[nm,fO]))]
theorem qJ {d:D} (hx:∀x∈nm d,h x=h' x):dY h d=dY h' d:=by
 cases d<;>first|rfl|(simp only[dY];rw[kD hx])
theorem sI {d:D} (hx:∀x∈fO d,h x=h' x):aN h d=aN h' d:=by
 cases d<;>try rfl
 ·simp only[aN]
  rw[cq (hx _ (by simp[fO]))]
 ·simp only[aN]
  rw[kD (d := .buf _ _ _ _ _) hx]
 ·simp only[aN]
  rw[kD (d := .buf _ _ _ _ _) hx]
 ·simp only[aN]
  rw[mc (hx _ (by simp[fO]))]
 ·rename_i x v y
  simp only[aN]
  rw[cq (hx x (by simp[fO]))]
  have hl:∀v',fV h y v'=fV h' y v':=fun v'=>mc (hx y (by simp[fO]))
  simp only[hl]
theorem rQ:∀ {ds:List D},(∀d∈ds,∀x∈fO d,h x=h' x)->cH h ds=cH h' ds
 | [],_=>rfl
 | d::ds,hx=>by
  simp only[cH]
  rw[sI (hx d (by simp)),rQ (fun d' hd'=>hx d' (by simp[hd']))]
theorem sH (h:Nat->Option Row) {d:D} (hd:∀f kk xs,d ≠ .clo f kk xs):bE h d=aN h d:=by cases d<;>first|rfl|exact absurd rfl (hd _ _ _)
theorem Tj {d:D} (hd:∀f kk xs,d ≠ .clo f kk xs):nm d=fO d:=by cases d<;>first|rfl|exact absurd rfl (hd _ _ _)
theorem WT (d:D):(∃f kk xs,d=.clo f kk xs)∨∀f kk xs,d ≠ .clo f kk xs:=by
 cases d<;>first|exact .inl ⟨_,_,_,rfl⟩|exact .inr (fun _ _ _ h=>by cases h)
theorem Cg {d:D} (hx:∀x∈nm d,h x=h' x):bE h d=bE h' d:=by
 rcases WT d with⟨f,kk,xs,rfl⟩|hd
 ·simp only[bE]
  rw[rQ (fun d hd x hxd=>hx x (ag0.2 ⟨d,hd,hxd⟩))]
 ·rw[Tj hd]at hx
  rw[sH h hd,sH h' hd]
  exact sI hx
theorem gT:∀ {ds:List D},(∀d∈ds,∀x∈nm d,h x=h' x)->bm h ds=bm h' ds
 | [],_=>rfl
 | d::ds,hx=>by
  simp only[bm]
  rw[Cg (hx d (by simp)),gT (fun d' hd'=>hx d' (by simp[hd']))]
theorem iM {fr:List Nat} (hx:∀x∈fr,h x=h' x):gG h fr=gG h' fr:=by
 unfold gG
 exact ag1 fun x hxm=>by rw[hx x hxm]
theorem pH {d d':D} {fr:List Nat} (hc:cY h d=some (d',fr)):∀x∈fr,x∈nm d:=by
 cases d<;>simp only[cY,afE,Prod.mk.injEq]at hc<;>try (cases hc;done)
 ·obtain⟨_,rfl⟩:=hc;simp
 ·obtain⟨_,rfl⟩:=hc;simp
 ·obtain⟨_,rfl⟩:=hc;simp
 ·obtain⟨_,rfl⟩:=hc;simp
 ·split at hc
  ·split at hc
   ·simp only[afE,Prod.mk.injEq]at hc
    obtain⟨_,rfl⟩:=hc
    simp[nm,fO]
   ·cases hc
  ·cases hc
theorem pG {d : D} {cs : List D} {fr : List Nat} (hc : dY h d = some (cs, fr)) : ∀ x ∈ fr, x ∈ nm d := by
  cases d <;> simp only [dY] at hc <;> first
    | (simp only [afE, Prod.mk.injEq] at hc; obtain ⟨_, rfl⟩ := hc; simp; done)
    | (split at hc
       · rename_i h1
         simp only [afE, Prod.mk.injEq] at hc
         obtain ⟨_, rfl⟩ := hc
         exact pH h1
       · cases hc)
theorem zH {d d':D} {fr:List Nat} (hc:aN h d=some (d',fr)):∀x∈fr,x∈fO d:=by
 have one:∀d,(∀f kk xs,d ≠ .clo f kk xs)->aN h d=(match cY h d with|some (d',fr)=>some (canon d',fr)|none=>none)->aN h d=some (d',fr)->∀x∈fr,x∈fO d:=by
  intro d hne he hc
  rw[he]at hc
  split at hc
  ·rename_i h1
   simp only[afE,Prod.mk.injEq]at hc
   obtain⟨_,rfl⟩:=hc
   intro x hx
   have:=pH h1 x hx
   cases d<;>first|exact this|exact absurd rfl (hne _ _ _)
  ·cases hc
 cases d with
 | ptr x v o =>
  simp only[aN]at hc
  split at hc
  ·split at hc
   ·simp only[afE,Prod.mk.injEq]at hc
    obtain⟨_,rfl⟩:=hc
    simp[fO]
   ·cases hc
  ·cases hc
 | agg xs=>simp only[aN,afE,Prod.mk.injEq]at hc;obtain⟨_,rfl⟩:=hc;simp
 | ip xs=>simp only[aN,afE,Prod.mk.injEq]at hc;obtain⟨_,rfl⟩:=hc;simp
 | fn f=>simp only[aN,afE,Prod.mk.injEq]at hc;obtain⟨_,rfl⟩:=hc;simp
 | clo f kk xs=>simp[aN,cY]at hc
 | box1 x v s o n =>
  simp only[aN]at hc
  split at hc
  ·rename_i h1
   simp only[afE,Prod.mk.injEq]at hc
   obtain⟨_,rfl⟩:=hc
   exact pH h1
  ·cases hc
 | mp x v =>
  simp only[aN]at hc
  split at hc
  ·simp only[afE,Prod.mk.injEq]at hc
   obtain⟨_,rfl⟩:=hc
   simp[fO]
  ·cases hc
 | mpc ks vs=>simp only[aN,afE,Prod.mk.injEq]at hc;obtain⟨_,rfl⟩:=hc;simp
 | pm x v y =>
  simp only[aN]at hc
  split at hc
  ·split at hc
   ·split at hc
    ·split at hc
     ·simp only[afE,Prod.mk.injEq]at hc
      obtain⟨_,rfl⟩:=hc
      simp[fO]
     ·cases hc
    ·cases hc
   ·cases hc
  ·cases hc
 | _=>exact one _ (fun _ _ _ h=>by cases h) rfl hc
theorem wZ:∀ {ds ds':List D} {fr:List Nat},cH h ds=some (ds',fr)->∀x∈fr,x∈ds.flatMap fO
 | [],ds',fr,hc,x,hx=>by
  simp only[cH,afE,Prod.mk.injEq]at hc
  obtain⟨_,rfl⟩:=hc
  simp at hx
 | d::ds,ds',fr,hc,x,hx=>by
  simp only[cH]at hc
  split at hc
  ·rename_i h1
   split at hc
   ·rename_i h2
    simp only[afE,Prod.mk.injEq]at hc
    obtain⟨_,rfl⟩:=hc
    rw[List.flatMap_cons]
    rcases agL.1 hx with hx|hx
    ·exact afJ _ (zH h1 x hx)
    ·exact afK _ (wZ h2 x hx)
   ·cases hc
  ·cases hc
theorem Lu {d d':D} {fr:List Nat} (hc:bE h d=some (d',fr)):∀x∈fr,x∈nm d:=by
 rcases WT d with⟨f,kk,xs,rfl⟩|hd
 ·simp only[bE]at hc
  split at hc
  ·rename_i h1
   simp only[afE,Prod.mk.injEq]at hc
   obtain⟨_,rfl⟩:=hc
   exact wZ h1
  ·cases hc
 ·rw[Tj hd]
  rw[sH h hd]at hc
  exact zH hc
theorem fT:∀ {ds ds':List D} {fr:List Nat},bm h ds=some (ds',fr)->∀x∈fr,∃d∈ds,x∈nm d
 | [],ds',fr,hc,x,hx=>by
  simp only[bm,afE,Prod.mk.injEq]at hc
  obtain⟨_,rfl⟩:=hc
  simp at hx
 | d::ds,ds',fr,hc,x,hx=>by
  simp only[bm]at hc
  split at hc
  ·rename_i h1
   split at hc
   ·rename_i h2
    simp only[afE,Prod.mk.injEq]at hc
    obtain⟨_,rfl⟩:=hc
    rcases agL.1 hx with hx|hx
    ·exact⟨d,by simp,Lu h1 x hx⟩
    ·obtain⟨d',hd',hx'⟩:=fT h2 x hx
     exact⟨d',by simp[hd'],hx'⟩
   ·cases hc
  ·cases hc
theorem s3 {place:Nat->Option (Nat×Nat)} : ∀ {parts:List (Nat×D)} {cells:List D},(∀p∈parts,∀x∈nm p.2,h x=h' x)->gF h place cells parts=gF h' place cells parts
 | [],_,_=>rfl
 | (i,d)::parts,cells,hx=>by
  simp only[gF]
  rw[qJ (hx (i,d) (by simp))]
  have ih:∀cells',gF h place cells' parts=gF h' place cells' parts:=fun cells'=>s3 (fun p hp=>hx p (by simp[hp]))
  simp only[ih]
theorem s4 {place:Nat->Option (Nat×Nat)} : ∀ {parts:List (Nat×D)} {cells out:List D} {fr:List Nat},gF h place cells parts=some (out,fr)->∀x∈fr,∃p∈parts,x∈nm p.2
 | [],cells,out,fr,hc,x,hx=>by
  simp only[gF,afE,Prod.mk.injEq]at hc
  obtain⟨_,rfl⟩:=hc
  simp at hx
 | (i,d)::parts,cells,out,fr,hc,x,hx=>by
  simp only[gF]at hc
  split at hc
  ·rename_i h1 h2
   split at hc
   ·split at hc
    ·rename_i h3
     simp only[afE,Prod.mk.injEq]at hc
     obtain⟨_,rfl⟩:=hc
     rcases agL.1 hx with hx|hx
     ·exact⟨(i,d),by simp,pG h2 x hx⟩
     ·obtain⟨p,hp,hx'⟩:=s4 h3 x hx
      exact⟨p,by simp[hp],hx'⟩
    ·cases hc
   ·cases hc
  ·cases hc
theorem fN {fr:List Nat} {p:Nat×Option Row} (hp:p∈gG h fr):p.1∈fr:=by
 unfold gG at hp
 obtain⟨x,hx,rfl⟩:=afu.1 hp
 exact hx
theorem Fe {τ:Ty} {d:D} (hx:∀x∈nm d,h x=h' x):df τ h d=df τ h' d:=by
 cases d<;>try rfl
 simp only[df]
 rw[cq (hx _ (by simp[nm,fO]))]
theorem s9 {x v:Nat} (hx:h x=h' x):kd h x v=kd h' x v:=by
 unfold kd
 rw[hx]
theorem Jr {τ:Ty} {x v y:Nat} (hx:h x=h' x) (hy:h y=h' y):nL τ h x v y (kd h x v)=nL τ h' x v y (kd h' x v):=by
 rw[s9 hx]
 cases kd h' x v with
 | none=>rfl
 | some q =>
  obtain⟨r,y',s,n⟩:=q
  simp only[nL]
  rw[hy,iM (fr:=[y]) (fun z hz=>by simp only[afS]at hz;subst hz;exact hy)]
theorem L4 {τ:Ty} {d:D} (hx:∀x∈nm d,h x=h' x):lY τ h d=lY τ h' d:=by
 have hl:=Fe (τ:=τ) hx
 cases d with
 | ptr x v o =>
  simp only[lY]
  rw[cq (hx x (by simp[nm,fO]))]
  cases live h' x v with
  | none=>rfl
  | some r=>simp only[my];rw[hl]
 | pm x v y =>
  simp only[lY]
  rw[cq (hx x (by simp[nm,fO])),Jr (hx x (by simp[nm,fO])) (hx y (by simp[nm,fO]))]
 | _=>exact hl
theorem CO {τ:Ty} {p d:D} (hp:∀x∈nm p,h x=h' x) (hx:∀x∈nm d,h x=h' x):cB τ h p d=cB τ h' p d:=by
 cases p<;>try rfl
 simp only[cB]
 rw[cq (hp _ (by simp[nm,fO])),qJ hx]
 cases live h' _ _ with
 | none=>rfl
 | some r =>
  cases hc:dY h' d with
  | none=>rfl
  | some q =>
   obtain⟨cs,fr⟩:=q
   simp only
   rw[iM (fr:=fr) (fun x hxf=>hx x (pG hc x hxf))]
theorem Ju {τ:Ty} {p d:D} (hp:∀x∈nm p,h x=h' x) (hx:∀x∈nm d,h x=h' x):cJ τ h p d=cJ τ h' p d:=by
 have hl:=CO (τ:=τ) hp hx
 cases d with
 | box1 y vy s oy n =>
  cases p with
  | ptr x v o =>
   simp only[cJ]
   rw[cq (hp _ (by simp[nm,fO]))]
  | pm x v k =>
   simp only[cJ]
   rw[cq (hp x (by simp[nm,fO])),cq (hx y (by simp[nm,fO]))]
  | _=>rfl
 | mp y' v' =>
  cases p with
  | pm x v y =>
   simp only[cJ]
   rw[cq (hp x (by simp[nm,fO])),mc (hp y (by simp[nm,fO]))]
  | _=>rfl
 | _=>exact hl
theorem Al {d:D} (hx:∀x∈nm d,h x=h' x):mapOf h d=mapOf h' d:=by
 cases d<;>try rfl
 simp only[mapOf]
 rw[mc (hx _ (by simp[nm,fO]))]
theorem A4 {τ:Ty} {m i:D} {ok:Bool} (hx:∀x∈nm m,h x=h' x):fu T τ h m i ok=fu T τ h' m i ok:=by
 unfold fu
 rw[Al hx]
theorem Ry {d:D} (hx:∀x∈nm d,h x=h' x):si h d=si h' d:=by
 cases d<;>first|rfl|(simp only[si];rw[kD hx])
theorem Uk {d d' : D} {fr : List Nat} (hc : si h d = some (d', fr)) : ∀ x ∈ fr, x ∈ nm d := by
  cases d <;> simp only [si] at hc <;> first
    | (simp only [afE, Prod.mk.injEq] at hc; obtain ⟨_, rfl⟩ := hc; simp; done)
    | (split at hc
       · rename_i h1
         simp only [afE, Prod.mk.injEq] at hc
         obtain ⟨_, rfl⟩ := hc
         exact pH h1
       · cases hc)
theorem nM {τ:Ty} {m i d:D} (hx:∀x∈nm m,h x=h' x) (hd:∀x∈nm d,h x=h' x):cg T τ h m i d=cg T τ h' m i d:=by
 unfold cg
 rw[Ry hd]
 split
 ·rename_i _ _ y v n d' fr _ _ hv
  have hy:=hx y (by simp[nm,fO])
  rw[hy,mc hy]
  rw[iM (fun z hz=>hd z (Uk hv z hz))]
 ·rfl
theorem Jt {d:D} (hx:∀x∈nm d,h x=h' x):iw h d=iw h' d:=by
 cases d<;>try rfl
 simp only[iw]
 rw[iA (hx _ (by simp[nm,fO]))]
theorem CM {τ:Ty} {i:Nat} {d:D} (hx:∀x∈nm d,h x=h' x):dC T τ h i d=dC T τ h' i d:=by
 cases d<;>try rfl
 ·simp only[dC]
  rw[iA (hx _ (by simp[nm,fO]))]
 ·simp only[dC]
  rw[s9 (hx _ (by simp[nm,fO]))]
theorem wq {τ:Ty} {d i:D} (hx:∀x∈nm d,h x=h' x):bD T τ h d i=bD T τ h' d i:=by
 cases d<;>cases i<;>try rfl
 ·simp only[bD]
  rw[cq (hx _ (by simp[nm,fO]))]
 ·simp only[bD]
  rw[iA (hx _ (by simp[nm,fO]))]
theorem CN {τ:Ty} {d:D} {lo hi mx:Option D} (hx:∀x∈nm d,h x=h' x):cu T τ h d lo hi mx=cu T τ h' d lo hi mx:=by
 cases d<;>try rfl
 simp only[cu]
 rw[cq (hx _ (by simp[nm,fO]))]
theorem CJ {τ:Ty} {parts:List (Nat×D)} (hx:∀p∈parts,∀x∈nm p.2,h x=h' x):ew T τ h parts=ew T τ h' parts:=by
 unfold ew
 have h1:∀pl cells,gF h pl cells parts=gF h' pl cells parts:=fun pl cells=>s3 hx
 split
 ·split
  ·rw[h1]
   split
   ·rename_i hf
    rw[iM (fun x hxf=>by obtain⟨p,hp,hx'⟩:=s4 hf x hxf;exact hx p hp x hx')]
   ·rfl
  ·rfl
 ·rfl
theorem Jp {q:Nat->Bool} {τ:Ty} {dst:Option Nat} {parts:List (Nat×D)} (hx:∀p∈parts,∀x∈nm p.2,h x=h' x):nH q T τ h dst parts=nH q T τ h' dst parts:=by
 have hb:=CJ (T:=T) (τ:=τ) hx
 unfold nH
 split
 ·split
  ·exact hb
  ·split
   ·rename_i x v s o n _
    have e:alive h (.buf x v s o n)=alive h' (.buf x v s o n):=by
     simp only[alive]
     rw[iA (hx (0,.buf x v s o n) (by simp) x (by simp[nm,fO]))]
    rw[e]
   ·rename_i x v s o n _
    have e:alive h (.buf x v s o n)=alive h' (.buf x v s o n):=by
     simp only[alive]
     rw[iA (hx (0,.box1 x v s o n) (by simp) x (by simp[nm,fO]))]
    rw[e]
   ·rw[hb]
 ·exact hb
theorem vl {τ:Ty} {d len:Nat} {parts:List (Nat×D)} (hx:∀p∈parts,∀x∈nm p.2,h x=h' x):dB T τ h e d len parts=dB T τ h' e d len parts:=by
 unfold dB
 have h1:∀pl cells,gF h pl cells parts=gF h' pl cells parts:=fun pl cells=>s3 hx
 split
 ·split
  ·split
   ·rw[h1]
    split
    ·rename_i hf
     rw[iM (fun x hxf=>by obtain⟨p,hp,hx'⟩:=s4 hf x hxf;exact hx p hp x hx')]
    ·rfl
   ·rfl
  ·rfl
 ·rfl
theorem A2 {τ:Ty} {d:Nat} {s x:D} (hs:∀y∈nm s,h y=h' y) (hx:∀y∈nm x,h y=h' y):gZ T τ h e d s x=gZ T τ h' e d s x:=by
 unfold gZ
 rw[E9 hx]
 cases s<;>try rfl
 simp only
 rw[cq (hs _ (by simp[nm,fO]))]
theorem KO {d:D} (hx:∀x∈nm d,h x=h' x):alive h d=alive h' d:=by
 cases d<;>try rfl
 all_goals
  simp only[alive]
  rw[iA (hx _ (by simp[nm,fO]))]
theorem yU {dst:Option Nat} {b:Builtin} {tys:List Nat} {args:List D} (hx:∀d∈args,∀x∈nm d,h x=h' x):b6 T h e dst b tys args=b6 T h' e dst b tys args:=by
 unfold b6
 split
 ·rw[KO (hx _ (by simp)),Al (hx _ (by simp))]
 ·split
  ·split
   ·rw[A2 (hx _ (by simp)) (hx _ (by simp))]
   ·rfl
  ·rfl
 ·rfl
 ·rfl
 ·rfl
theorem zA {dst:Option Nat} {g:Nat} {args:List D} (hx:∀d∈args,∀x∈nm d,h x=h' x):sD Γ h e dst g args=sD Γ h' e dst g args:=by
 unfold sD
 rw[gT hx]
 split
 ·rename_i hf
  rw[iM (fun x hxf=>by obtain⟨d,hd,hx'⟩:=fT hf x hxf;exact hx d hd x hx')]
 ·rfl
theorem sF {dst:Option Nat} {g x v:Nat} {d0:D} {args:List D} (h0:h x=h' x) (hx:∀d∈args,∀x∈nm d,h x=h' x):nF Γ h e dst g x v d0 args=nF Γ h' e dst g x v d0 args:=by
 unfold nF
 rw[Ng h0,gT hx]
 split
 ·split
  ·split
   ·rename_i hf
    rw[iM (fun x hxf=>by obtain⟨d,hd,hx'⟩:=fT hf x hxf;exact hx d hd x hx')]
   ·rfl
  ·rfl
 ·rfl
theorem K4 {dst:Option Nat} {p:Nat×Nat×Nat} {args:List D} (hx:∀d∈args,∀x∈nm d,h x=h' x):rP h e dst p args=rP h' e dst p args:=by
 unfold rP
 split
 ·rw[cq (hx _ ag2 _ (by simp[nm,fO])),cq (hx _ (ag3 _ (ag3 _ ag2)) _ (by simp[nm,fO]))]
 ·rfl
theorem K0 {p:Grow} {args:List D} (hx:∀d∈args,∀x∈nm d,h x=h' x):rO h p args=rO h' p args:=by
 unfold rO
 split
 ·rw[s9 (hx _ ag2 _ (by simp[nm,fO])),hx _ ag2 _ (show _∈nm (D.pm _ _ _) by simp only[nm,fO];exact ag3 _ ag2)]
 ·rfl
theorem Fc {dst:Option Nat} {f:D} {args:List D} (hf:∀x∈nm f,h x=h' x) (hx:∀d∈args,∀x∈nm d,h x=h' x):gn Γ h e dst f args=gn Γ h' e dst f args:=by
 cases f<;>try rfl
 ·rename_i g
  simp only[gn]
  split
  ·exact K4 hx
  split
  ·exact K0 hx
  split
  ·split
   ·exact sF (hx _ ag2 _ (by simp[nm,fO])) (fun d hd=>hx d (ag3 _ hd))
   ·exact sF (hx _ ag2 _ (by simp[nm,fO])) (fun d hd=>hx d (ag3 _ hd))
   ·exact sF (hx _ ag2 _ (by simp[nm,fO])) (fun d hd=>hx d (ag3 _ hd))
   ·rfl
  ·exact zA hx
 ·rename_i g kk caps
  simp only[gn]
  split
  ·rename_i hok
   rw[afG]at hok
   have hcap:∀d∈caps,∀x∈nm d,h x=h' x:=fun d hd x hxd=>by
    have:=hok d hd
    rw[Tj (fun f kk xs he=>by rw[he]at this;cases this)]at hxd
    exact hf x (ag0.2 ⟨d,hd,hxd⟩)
   refine zA fun d hd =>?_
   rcases agL.1 hd with hd|hd
   ·exact hcap d (agf hd)
   ·rcases agL.1 hd with hd|hd
    ·exact hx d hd
    ·exact hcap d (agd hd)
  ·rfl
theorem rS {ty:Nat} {dst:Option Nat} {x:D} (hx:∀y∈nm x,h y=h' y):bF T ty e dst h x=bF T ty e dst h' x:=by
 unfold bF
 split
 ·rw[cq (hx _ (by simp[nm,fO])),iA (hx _ (by simp[nm,fO]))]
 ·rfl
 ·rfl
theorem Jg {d:D} (hx:∀x∈nm d,h x=h' x):nG h d=nG h' d:=by
 by_cases hd:∀xs,d ≠ .agg xs
 ·rw[tZ hd,tZ hd]
  exact kD hx
 ·simp only[ne_eq,Classical.not_forall,Classical.not_not]at hd
  obtain⟨xs,rfl⟩:=hd
  rfl
theorem Gu {d d':D} {fr:List Nat} (hc:nG h d=some (d',fr)):∀x∈fr,x∈nm d:=by
 by_cases hd:∀xs,d ≠ .agg xs
 ·rw[tZ hd]at hc
  exact pH hc
 ·simp only[ne_eq,Classical.not_forall,Classical.not_not]at hd
  obtain⟨xs,rfl⟩:=hd
  simp only[nG,afE,Prod.mk.injEq]at hc
  obtain⟨_,rfl⟩:=hc
  simp
theorem Jo {q:Nat->Bool} {ty:Nat} {dst:Option Nat} {x:D} (hx:∀y∈nm x,h y=h' y):pt T q ty e dst h x=pt T q ty e dst h' x:=by
 unfold pt gu
 rw[Jg hx]
 split
 ·rw[rS hx]
  split
  ·rfl
  ·split
   ·rename_i hc
    rw[iM fun y hy=>hx y (Gu hc y hy)]
   ·rfl
 ·exact rS hx
theorem UL {vs : Operand -> D} (hx : ∀ x ∈ fG o vs, h x = h' x) : kZ T Γ e o vs h = kZ T Γ e o vs h' := by
  have key : ∀ y, y ∈ o.op.operands.toList -> (∀ a b c, o.op ≠ .pick a b c) -> (∀ a, o.op ≠ .move a) -> (∀ a b c, o.op ≠ .makeFunc a b c) -> ∀ x ∈ nm (vs y), h x = h' x := by
    intro y hy h1 h2 h3 x hxm
    apply hx x
    unfold fG
    split
    · rename_i ho; exact absurd ho (h2 _)
    · rename_i ho; exact absurd ho (h1 _ _ _)
    · rename_i ho; exact absurd ho (h3 _ _ _)
    · exact afJ _ (ag0.2 ⟨y, hy, hxm⟩)
  unfold kZ
  cases ho : o.op <;> (try simp only) <;> rw [ho] at key <;> try rfl
  case assign x => exact Jo (key x (by simp [Op.operands]) (by simp) (by simp) (by simp))
  case box ty x => rw [qJ (key x (by simp [Op.operands]) (by simp) (by simp) (by simp))]
                   split
                   · rename_i hc
                     rw [iM (fun z hz => key x (by simp [Op.operands]) (by simp) (by simp) (by simp) z (pG hc z hz))]
                   · rfl
  case load ty x => simp only [L4 (key x (by simp [Op.operands]) (by simp) (by simp) (by simp))]
  case store ty x y => simp only [Ju (key x (by simp [Op.operands]) (by simp) (by simp) (by simp)) (key y (by simp [Op.operands]) (by simp) (by simp) (by simp))]
  case nilCheck x => exact Jt (key x (by simp [Op.operands]) (by simp) (by simp) (by simp))
  case fieldAddr ty x i => simp only [CM (key x (by simp [Op.operands]) (by simp) (by simp) (by simp))]
  case makeMap ty res => cases res <;> rfl
  case lookup ty m i ok => simp only [A4 (key m (by simp [Op.operands]) (by simp) (by simp) (by simp))]
  case mapUpdate ty m i x => simp only [nM (key m (by simp [Op.operands]) (by simp) (by simp) (by simp)) (key x (by simp [Op.operands]) (by simp) (by simp) (by simp))]
  case insert ty m i x => simp only [nM (key m (by simp [Op.operands]) (by simp) (by simp) (by simp)) (key x (by simp [Op.operands]) (by simp) (by simp) (by simp))]
  case indexAddr ty x i => simp only [wq (key x (by simp [Op.operands]) (by simp) (by simp) (by simp))]
  case slice ty x lo hi mx => simp only [CN (key x (by simp [Op.operands]) (by simp) (by simp) (by simp))]
  case build ty parts =>
    have : ∀ p ∈ parts.toList.map (fun p => (p.1, vs p.2)), ∀ x ∈ nm p.2, h x = h' x := by
      intro p hp x hx'
      obtain ⟨q, hq, rfl⟩ := afu.1 hp
      exact key q.2 (by simp only [Op.operands, List.toList_toArray]; exact afu.2 ⟨q, hq, rfl⟩) (by simp) (by simp) (by simp) x hx'
    simp only [Jp this]
  case buildSlice ty len parts =>
    have : ∀ p ∈ parts.toList.map (fun p => (p.1, vs p.2)), ∀ x ∈ nm p.2, h x = h' x := by
      intro p hp x hx'
      obtain ⟨q, hq, rfl⟩ := afu.1 hp
      exact key q.2 (by simp only [Op.operands, List.toList_toArray]; exact afu.2 ⟨q, hq, rfl⟩) (by simp) (by simp) (by simp) x hx'
    simp only [vl this]
  case call c =>
    have : ∀ d ∈ c.args.toList.map vs, ∀ x ∈ nm d, h x = h' x := by
      intro d hd x hx'
      obtain ⟨y, hy, rfl⟩ := afu.1 hd
      exact key y (by simp only [Op.operands, Call.operands, agQ]; exact afK _ hy) (by simp) (by simp) (by simp) x hx'
    cases hc : c.callee with
    | value f => exact Fc (key f (by simp [Op.operands, Call.operands, hc]) (by simp) (by simp) (by simp)) this
    | builtin b => exact yU this
    | invoke _ _ => rfl
theorem abY {vs vs':Operand->D} (hx:∀y∈o.op.operands.toList,vs y=vs' y):kZ T Γ e o vs h=kZ T Γ e o vs' h∧fG o vs=fG o vs':=by
 refine⟨?_,?_⟩
 ·unfold kZ
  cases ho:o.op<;>(try simp only)<;>rw[ho]at hx<;>try rfl
  case move x=>rw[hx x (by simp[Op.operands])]
  case assign x=>rw[hx x (by simp[Op.operands])]
  case pick a b c=>rw[hx a (by simp[Op.operands]),hx b (by simp[Op.operands]),hx c (by simp[Op.operands])]
  case box ty x=>rw[hx x (by simp[Op.operands])]
  case load ty x=>rw[hx x (by simp[Op.operands])]
  case store ty x y=>rw[hx x (by simp[Op.operands]),hx y (by simp[Op.operands])]
  case nilCheck x=>rw[hx x (by simp[Op.operands])]
  case fieldAddr ty x i=>rw[hx x (by simp[Op.operands])]
  case field ty x i=>rw[hx x (by simp[Op.operands])]
  case makeMap ty res=>cases res<;>rfl
  case lookup ty m i ok=>rw[hx m (by simp[Op.operands]),hx i (by simp[Op.operands])]
  case mapUpdate ty m i x=>rw[hx m (by simp[Op.operands]),hx i (by simp[Op.operands]),hx x (by simp[Op.operands])]
  case insert ty m i x=>rw[hx m (by simp[Op.operands]),hx i (by simp[Op.operands]),hx x (by simp[Op.operands])]
  case indexAddr ty x i=>rw[hx x (by simp[Op.operands]),hx i (by simp[Op.operands])]
  case index ty x i=>rw[hx x (by simp[Op.operands]),hx i (by simp[Op.operands])]
  case slice ty x lo hi mx =>
   rw[hx x (by simp[Op.operands])]
   have e1:lo.map vs=lo.map vs':=by cases lo with|none=>rfl|some y=>simp only[Option.map_some];rw[hx y (by simp[Op.operands])]
   have e2:hi.map vs=hi.map vs':=by cases hi with|none=>rfl|some y=>simp only[Option.map_some];rw[hx y (by simp[Op.operands])]
   have e3:mx.map vs=mx.map vs':=by cases mx with|none=>rfl|some y=>simp only[Option.map_some];rw[hx y (by simp[Op.operands])]
   rw[e1,e2,e3]
  case build ty parts =>
   have:parts.toList.map (fun p=>(p.1,vs p.2))=parts.toList.map (fun p=>(p.1,vs' p.2)):=ag1 fun p hp=>by rw[hx p.2 (by simp only[Op.operands,List.toList_toArray];exact afu.2 ⟨p,hp,rfl⟩)]
   rw[this]
  case buildSlice ty len parts =>
   have:parts.toList.map (fun p=>(p.1,vs p.2))=parts.toList.map (fun p=>(p.1,vs' p.2)):=ag1 fun p hp=>by rw[hx p.2 (by simp only[Op.operands,List.toList_toArray];exact afu.2 ⟨p,hp,rfl⟩)]
   rw[this]
  case makeSlice ty l c=>rw[hx l (by simp[Op.operands]),hx c (by simp[Op.operands])]
  case binOp op ty x y ty'=>rw[hx x (by simp[Op.operands]),hx y (by simp[Op.operands])]
  case unOp op ty x=>rw[hx x (by simp[Op.operands])]
  case convert s d x=>rw[hx x (by simp[Op.operands])]
  case makeFunc fn first caps =>
   have:caps.toList.map vs=caps.toList.map vs':=ag1 fun y hy=>hx y (by simp only[Op.operands,agQ];exact afK _ hy)
   have this2:first.toList.map vs=first.toList.map vs':=ag1 fun y hy=>hx y (by simp only[Op.operands,agQ];exact afJ _ hy)
   rw[this,this2]
  case extract x i=>rw[hx x (by simp[Op.operands])]
  case call c =>
   have:c.args.toList.map vs=c.args.toList.map vs':=ag1 fun y hy=>hx y (by simp only[Op.operands,Call.operands,agQ];exact afK _ hy)
   cases hc:c.callee with
   | value f=>simp only;rw[this,hx f (by simp[Op.operands,Call.operands,hc])]
   | builtin b=>simp only;rw[this]
   | invoke _ _=>rfl
 ·have hfm:o.op.operands.toList.flatMap (fun y=>nm (vs y))=o.op.operands.toList.flatMap (fun y=>nm (vs' y)):=by
   rw[List.flatMap_def,List.flatMap_def]
   congr 1
   exact ag1 fun y hy=>by rw[hx y hy]
  unfold fG
  cases ho:o.op<;>simp only<;>rw[ho]at hfm<;>rw[hfm]
end
section
variable {T:Nat->Option Ty} {h h':Nat->Option Row} {e:Nat} {o:Oper} {Γ:Env}
theorem A3 {τ:Ty} {d:Nat} {s x:D} {E:bt} (hE:gZ T τ h e d s x=some E):∀p∈E.hw,p.1=d∨p.1∈nm s:=by
 unfold gZ at hE
 split at hE
 ·split at hE
  ·split at hE
   ·split at hE
    ·split at hE
     ·split at hE
      ·simp only[afE]at hE;subst hE;intro p hp;simp at hp
      ·simp only[afE]at hE;subst hE;intro p hp;simp at hp;exact .inl (by rw[hp])
     ·cases hE
    ·split at hE
     ·split at hE
      ·simp only[afE]at hE;subst hE
       intro p hp
       simp only[afC,agC,or_false]at hp
       rcases hp with rfl|rfl
       ·exact .inr (by simp[nm,fO])
       ·exact .inl rfl
      ·cases hE
     ·cases hE
    ·cases hE
   ·cases hE
  ·cases hE
 ·cases hE
theorem zB {dst:Option Nat} {g:Nat} {args:List D} {E:bt} (hE:sD Γ h e dst g args=some E):∀p∈E.hw,dst=some p.1∨∃d∈args,p.1∈nm d:=by
 unfold sD at hE
 split at hE
 ·rename_i hca
  split at hE
  ·simp only[afE]at hE
   subst hE
   intro p hp
   simp only at hp
   split at hp
   ·simp at hp
   ·exact .inr (fT hca _ (fN hp))
  ·split at hE
   ·split at hE
    ·simp only[afE]at hE
     subst hE
     intro p hp
     simp only[agL,afS]at hp
     rcases hp with hp|rfl
     ·split at hp
      ·simp at hp
      ·exact .inr (fT hca _ (fN hp))
     ·exact .inl rfl
    ·cases hE
   ·cases hE
  ·cases hE
 ·cases hE
theorem K1 {p:Grow} {args:List D} {E:bt} (hE:rO h p args=some E):∀q∈E.hw,∃d∈args,q.1∈nm d:=by
 unfold rO at hE
 split at hE<;>try (cases hE;done)
 split at hE<;>try (cases hE;done)
 split at hE<;>try (cases hE;done)
 rename_i hcond
 obtain⟨rfl,_⟩:=hcond
 split at hE<;>try (cases hE;done)
 simp only[afE]at hE
 subst hE
 intro q hq
 simp only[afC,agC,or_false]at hq
 rcases hq with rfl|rfl
 ·exact⟨_,ag2,by simp[nm,fO]⟩
 ·exact⟨_,ag2,by simp[nm,fO]⟩
theorem K5 {dst:Option Nat} {p:Nat×Nat×Nat} {args:List D} {E:bt} (hE:rP h e dst p args=some E):∀q∈E.hw,dst=some q.1∨∃d∈args,q.1∈nm d:=by
 unfold rP at hE
 split at hE<;>try (cases hE;done)
 split at hE<;>try (cases hE;done)
 split at hE<;>try (cases hE;done)
 simp only[afE]at hE
 subst hE
 intro q hq
 simp only[afC,agC,or_false]at hq
 rcases hq with rfl|rfl|rfl
 ·exact .inr ⟨_,ag3 _ (ag3 _ ag2),by simp[nm,fO]⟩
 ·exact .inr ⟨_,ag2,by simp[nm,fO]⟩
 ·exact .inl rfl
theorem sG {dst:Option Nat} {g x v:Nat} {d0:D} {args:List D} {E:bt} (hE:nF Γ h e dst g x v d0 args=some E):∀p∈E.hw,dst=some p.1∨p.1=x∨∃d∈args,p.1∈nm d:=by
 unfold nF at hE
 split at hE<;>try (cases hE;done)
 split at hE<;>try (cases hE;done)
 split at hE<;>try (cases hE;done)
 rename_i hca
 split at hE<;>try (cases hE;done)
 split at hE<;>try (cases hE;done)
 ·simp only[afE]at hE
  subst hE
  intro p hp
  simp only[agL,afS]at hp
  rcases hp with hp|rfl
  ·exact .inr (.inr (fT hca _ (fN hp)))
  ·exact .inr (.inl rfl)
 ·simp only[afE]at hE
  subst hE
  intro p hp
  simp only[agL,afS]at hp
  rcases hp with hp|rfl
  ·exact .inr (.inr (fT hca _ (fN hp)))
  ·exact .inr (.inl rfl)
 ·split at hE<;>try (cases hE;done)
  split at hE<;>try (cases hE;done)
  simp only[afE]at hE
  subst hE
  intro p hp
  simp only[agL,afC,agC,or_false]at hp
  rcases hp with hp|rfl|rfl
  ·exact .inr (.inr (fT hca _ (fN hp)))
  ·exact .inr (.inl rfl)
  ·exact .inl rfl
theorem wv {τ:Ty} {d:D} {E:bt} (hE:df τ h d=some E):E.hw=[]:=by
 cases d<;>simp only[df]at hE<;>try (cases hE;done)
 all_goals (repeat' split at hE)<;>first|(cases hE;done)|(simp only[afE]at hE;subst hE;rfl)
theorem Xn {τ:Ty} {d:D} {E:bt} (hE:lY τ h d=some E):∀p∈E.hw,p.1∈nm d:=by
 have none_:E.hw=[]->∀p∈E.hw,p.1∈nm d:=fun he p hp=>by rw[he]at hp;simp at hp
 have hl:df τ h d=some E->∀p∈E.hw,p.1∈nm d:=fun he=>none_ (wv he)
 cases d with
 | ptr x v o =>
  simp only[lY]at hE
  cases hl:live h x v with
  | none=>rw[hl]at hE;cases hE
  | some r =>
   rw[hl]at hE
   simp only[my]at hE
   split at hE
   ·split at hE
    ·split at hE
     ·exact none_ (by simp only[afE]at hE;subst hE;rfl)
     ·exact none_ (wv hE)
    ·cases hE
   ·exact none_ (wv hE)
 | pm x v y =>
  simp only[lY]at hE
  split at hE
  ·split at hE
   ·split at hE
    ·exact none_ (by simp only[afE]at hE;subst hE;rfl)
    ·cases hE
   ·cases hE
  ·unfold nL at hE
   split at hE
   ·split at hE
    ·split at hE
     ·simp only[afE]at hE
      subst hE
      intro p hp
      have:=fN hp
      simp only[afS]at this
      rw[this]
      simp[nm,fO]
     ·cases hE
    ·cases hE
   ·cases hE
 | _=>exact hl hE
theorem CP {τ:Ty} {q d:D} {E:bt} (hE:cB τ h q d=some E):∀p∈E.hw,p.1∈nm d∨p.1∈nm q:=by
 cases q<;>simp only[cB]at hE<;>try (cases hE;done)
 split at hE
 ·split at hE
  ·rename_i hc
   split at hE
   ·simp only[afE]at hE
    subst hE
    intro p hp
    rcases agL.1 hp with hp|hp
    ·exact .inl (pG hc _ (fN hp))
    ·simp only[afS]at hp
     subst hp
     exact .inr (by simp[nm,fO])
   ·cases hE
  ·cases hE
 ·cases hE
theorem Jv {τ:Ty} {q d:D} {E:bt} (hE:cJ τ h q d=some E):∀p∈E.hw,p.1∈nm d∨p.1∈nm q:=by
 have hl:cB τ h q d=some E->∀p∈E.hw,p.1∈nm d∨p.1∈nm q:=CP
 cases d with
 | box1 y vy s oy n =>
  cases q with
  | ptr x v o =>
   simp only[cJ]at hE
   split at hE
   ·split at hE
    ·simp only[afE]at hE
     subst hE
     intro p hp
     simp only[afS]at hp
     subst hp
     exact .inr (by simp[nm,fO])
    ·cases hE
   ·cases hE
  | pm x v k =>
   simp only[cJ]at hE
   split at hE
   ·split at hE
    ·simp only[afE]at hE
     subst hE
     intro p hp
     simp only[afC,agC,or_false]at hp
     rcases hp with rfl|rfl|rfl
     ·exact .inl (by simp[nm,fO])
     ·exact .inr (by simp[nm,fO])
     ·exact .inr (by simp[nm,fO])
    ·cases hE
   ·cases hE
  | _=>simp[cJ]at hE
 | mp y' v' =>
  cases q with
  | pm x v y =>
   simp only[cJ]at hE
   split at hE
   ·split at hE
    ·simp only[afE]at hE
     subst hE
     intro p hp
     simp only[afS]at hp
     subst hp
     exact .inr (by simp[nm,fO])
    ·cases hE
   ·cases hE
  | _=>simp[cJ]at hE
 | _=>exact hl hE
theorem Js {τ:Ty} {m i:D} {ok:Bool} {E:bt} (hE:fu T τ h m i ok=some E):E.hw=[]:=by
 unfold fu at hE
 split at hE
 ·split at hE
  ·split at hE
   ·simp only[afE]at hE;subst hE;rfl
   ·cases hE
  ·cases hE
 ·cases hE
theorem nN {τ:Ty} {m i d:D} {E:bt} (hE:cg T τ h m i d=some E):∀p∈E.hw,p.1∈nm d∨p.1∈nm m:=by
 unfold cg at hE
 split at hE
 ·rename_i hv
  split at hE
  ·split at hE
   ·split at hE
    ·simp only[afE]at hE
     subst hE
     intro p hp
     rcases agL.1 hp with hp|hp
     ·exact .inl (Uk hv _ (fN hp))
     ·simp only[afS]at hp
      subst hp
      exact .inr (by simp[nm,fO])
    ·cases hE
   ·cases hE
  ·cases hE
 ·cases hE
theorem nI {τ:Ty} {parts:List (Nat×D)} {E:bt} (hE:ew T τ h parts=some E):∀p∈E.hw,∃q∈parts,p.1∈nm q.2:=by
 unfold ew at hE
 split at hE
 ·split at hE
  ·split at hE
   ·rename_i hf
    simp only[afE]at hE
    subst hE
    intro p hp
    exact s4 hf _ (fN hp)
   ·cases hE
  ·cases hE
 ·cases hE
theorem Jq {q:Nat->Bool} {τ:Ty} {dst:Option Nat} {parts:List (Nat×D)} {E:bt} (hE:nH q T τ h dst parts=some E):∀p∈E.hw,∃q∈parts,p.1∈nm q.2:=by
 unfold nH at hE
 split at hE
 ·split at hE
  ·exact nI hE
  ·split at hE
   ·split at hE
    ·simp only[afE]at hE
     subst hE
     intro p hp
     simp at hp
    ·cases hE
   ·split at hE
    ·simp only[afE]at hE
     subst hE
     intro p hp
     simp at hp
    ·cases hE
   ·unfold cE at hE
    split at hE
    ·rename_i hb
     simp only[afE]at hE
     subst hE
     have hh:=nI hb
     exact hh
    ·cases hE
 ·exact nI hE
theorem GW {vs:Operand->D} {E:bt} (hE:kZ T Γ e o vs h=some E):∀p∈E.hw,p.1∈fG o vs:=by
 have key:∀y,y∈o.op.operands.toList->(∀a b c,o.op ≠ .pick a b c)->(∀a,o.op ≠ .move a)->(∀a b c,o.op ≠ .makeFunc a b c)->∀x∈nm (vs y),x∈fG o vs:=by
  intro y hy h1 h2 h3 x hxm
  unfold fG
  split
  ·rename_i ho;exact absurd ho (h2 _)
  ·rename_i ho;exact absurd ho (h1 _ _ _)
  ·rename_i ho;exact absurd ho (h3 _ _ _)
  ·exact afJ _ (ag0.2 ⟨y,hy,hxm⟩)
 have keyd:∀d,o.dst=some d->(∀a b c,o.op ≠ .pick a b c)->(∀a,o.op ≠ .move a)->(∀a b c,o.op ≠ .makeFunc a b c)->d∈fG o vs:=by
  intro d hd h1 h2 h3
  unfold fG
  split
  ·rename_i ho;exact absurd ho (h2 _)
  ·rename_i ho;exact absurd ho (h1 _ _ _)
  ·rename_i ho;exact absurd ho (h3 _ _ _)
  ·exact afK _ (by rw[hd];simp)
 have none_:∀(d:D),(some ⟨d,[]⟩:Option bt)=some E->∀p∈E.hw,p.1∈fG o vs:=by
  intro d he p hp
  simp only[afE]at he
  subst he
  simp at hp
 unfold kZ at hE
 cases ho:o.op<;>rw[ho]at hE key keyd<;>simp only at hE<;>try (cases hE;done)
 case move x=>exact none_ _ hE
 case assign x =>
  have hold:bF T o.type e o.dst h (vs x)=some E->∀p∈E.hw,p.1∈fG o vs:=by
   intro hE
   unfold bF at hE
   split at hE
   ·rename_i y v s c n hx
    split at hE
    ·rename_i hd _
     split at hE
     ·exact none_ _ hE
     ·simp only[afE]at hE
      subst hE
      intro p hp
      simp only[afC,agC,or_false]at hp
      rcases hp with rfl|rfl
      ·exact key x (by simp[Op.operands]) (by simp) (by simp) (by simp) _ (by rw[hx];simp[nm,fO])
      ·exact keyd _ hd (by simp) (by simp) (by simp)
    ·split at hE
     ·exact none_ _ hE
     ·exact none_ _ hE
   ·split at hE
    ·rename_i hd _
     split at hE
     ·split at hE
      ·simp only[afE]at hE
       subst hE
       intro p hp
       simp only[afS]at hp
       subst hp
       exact keyd _ hd (by simp) (by simp) (by simp)
      ·cases hE
     ·cases hE
    ·cases hE
   ·exact none_ _ hE
  unfold pt at hE
  split at hE
  ·rename_i d hd
   split at hE
   ·rw[<- hd]at hE;exact hold hE
   ·unfold gu at hE
    split at hE
    ·rename_i d' fr hc
     simp only[afE]at hE
     subst hE
     intro p hp
     exact key x (by simp[Op.operands]) (by simp) (by simp) (by simp) _ (Gu hc _ (fN hp))
    ·cases hE
  ·rename_i hd;rw[<- hd]at hE;exact hold hE
 case pick a b c =>
  split at hE
  ·exact none_ _ hE
  ·exact none_ _ hE
  ·cases hE
 case alloc ty =>
  split at hE
  ·rename_i hd
   split at hE
   ·simp only[afE]at hE
    subst hE
    intro p hp
    simp only[afS]at hp
    subst hp
    exact keyd _ hd (by simp) (by simp) (by simp)
   ·cases hE
  ·cases hE
 case box ty x =>
  split at hE
  ·rename_i hd hc
   split at hE
   ·simp only[afE]at hE
    subst hE
    intro p hp
    rcases agL.1 hp with hp|hp
    ·exact key x (by simp[Op.operands]) (by simp) (by simp) (by simp) _ (pG hc _ (fN hp))
    ·simp only[afS]at hp
     subst hp
     exact keyd _ hd (by simp) (by simp) (by simp)
   ·cases hE
  ·cases hE
 case load ty x =>
  split at hE
  ·intro p hp
   exact key x (by simp[Op.operands]) (by simp) (by simp) (by simp) _ (Xn hE p hp)
  ·cases hE
 case store ty x y =>
  split at hE
  ·intro p hp
   rcases Jv hE p hp with hh|hh
   ·exact key y (by simp[Op.operands]) (by simp) (by simp) (by simp) _ hh
   ·exact key x (by simp[Op.operands]) (by simp) (by simp) (by simp) _ hh
  ·cases hE
 case makeMap ty res =>
  cases res with
  | some _=>cases hE
  | none =>
   simp only at hE
   split at hE
   ·rename_i hd
    unfold ln at hE
    split at hE
    ·split at hE
     ·cases hE
     simp only[afE]at hE
     subst hE
     intro p hp
     simp only[afS]at hp
     subst hp
     exact keyd _ hd (by simp) (by simp) (by simp)
    ·cases hE
   ·cases hE
 case lookup ty m i ok =>
  split at hE
  ·intro p hp
   rw[Js hE]at hp
   simp at hp
  ·cases hE
 case mapUpdate ty m i x =>
  split at hE
  ·intro p hp
   rcases nN hE p hp with hh|hh
   ·exact key x (by simp[Op.operands]) (by simp) (by simp) (by simp) _ hh
   ·exact key m (by simp[Op.operands]) (by simp) (by simp) (by simp) _ hh
  ·cases hE
 case insert ty m i x =>
  split at hE
  ·intro p hp
   rcases nN hE p hp with hh|hh
   ·exact key x (by simp[Op.operands]) (by simp) (by simp) (by simp) _ hh
   ·exact key m (by simp[Op.operands]) (by simp) (by simp) (by simp) _ hh
  ·cases hE
 case nilCheck x =>
  cases hx:vs x<;>rw[hx]at hE<;>simp only[iw]at hE<;>try (cases hE;done)
  ·split at hE
   ·exact none_ _ hE
   ·cases hE
  ·exact none_ _ hE
 case fieldAddr ty x i =>
  split at hE
  ·cases hx:vs x<;>rw[hx]at hE<;>simp only[dC]at hE<;>try (cases hE;done)
   ·split at hE
    ·split at hE
     ·split at hE
      ·split at hE
       ·cases hE
       ·exact none_ _ hE
      ·cases hE
     ·cases hE
    ·cases hE
   ·split at hE
    ·split at hE
     ·split at hE
      ·split at hE
       ·cases hE
       ·exact none_ _ hE
      ·cases hE
     ·cases hE
    ·cases hE
   ·split at hE
    ·split at hE
     ·split at hE
      ·split at hE
       ·cases hE
       ·exact none_ _ hE
      ·cases hE
     ·cases hE
    ·cases hE
  ·cases hE
 case field ty x i =>
  split at hE
  ·cases hx:vs x<;>rw[hx]at hE<;>simp only[kE]at hE<;>try (cases hE;done)
   split at hE
   ·split at hE
    ·split at hE
     ·split at hE
      ·exact none_ _ hE
      ·cases hE
     ·cases hE
    ·cases hE
   ·cases hE
  ·cases hE
 case indexAddr ty x i =>
  split at hE
  ·cases hx:vs x<;>cases hi:vs i<;>rw[hx,hi]at hE<;>simp only[bD]at hE<;>try (cases hE;done)
   all_goals
    split at hE
    ·split at hE
     ·split at hE
      ·exact none_ _ hE
      ·cases hE
     ·cases hE
    ·cases hE
  ·cases hE
 case index ty x i =>
  split at hE
  ·cases hx:vs x<;>cases hi:vs i<;>rw[hx,hi]at hE<;>simp only[fB]at hE<;>try (cases hE;done)
   ·split at hE
    ·split at hE
     ·split at hE
      ·exact none_ _ hE
      ·cases hE
     ·cases hE
    ·cases hE
   ·split at hE
    ·split at hE
     ·split at hE
      ·split at hE
       ·exact none_ _ hE
       ·cases hE
      ·cases hE
     ·cases hE
    ·cases hE
  ·cases hE
 case slice ty x lo hi mx =>
  split at hE
  ·unfold cu at hE
   split at hE
   ·split at hE
    ·exact none_ _ hE
    ·cases hE
   ·split at hE
    ·split at hE
     ·split at hE
      ·exact none_ _ hE
      ·split at hE
       ·split at hE
        ·exact none_ _ hE
        ·cases hE
       ·cases hE
     ·cases hE
    ·cases hE
   ·split at hE
    ·split at hE
     ·split at hE
      ·exact none_ _ hE
      ·cases hE
     ·cases hE
    ·cases hE
   ·cases hE
  ·cases hE
 case build ty parts =>
  split at hE
  ·intro p hp
   obtain⟨q,hq,hx⟩:=Jq hE p hp
   obtain⟨y,hy,rfl⟩:=afu.1 hq
   exact key y.2 (by simp only[Op.operands,List.toList_toArray];exact afu.2 ⟨y,hy,rfl⟩) (by simp) (by simp) (by simp) _ hx
  ·cases hE
 case buildSlice ty len parts =>
  split at hE
  ·rename_i hd
   unfold dB at hE
   split at hE
   ·split at hE
    ·split at hE
     ·split at hE
      ·rename_i hf
       split at hE
       ·simp only[afE]at hE
        subst hE
        intro p hp
        rcases agL.1 hp with hp|hp
        ·obtain⟨q,hq,hx⟩:=s4 hf _ (fN hp)
         obtain⟨y,hy,rfl⟩:=afu.1 hq
         exact key y.2 (by simp only[Op.operands,List.toList_toArray];exact afu.2 ⟨y,hy,rfl⟩) (by simp) (by simp) (by simp) _ hx
        ·simp only[afS]at hp
         subst hp
         exact keyd _ hd (by simp) (by simp) (by simp)
       ·cases hE
      ·cases hE
     ·cases hE
    ·cases hE
   ·cases hE
  ·cases hE
 case makeSlice ty l c =>
  split at hE
  ·rename_i hd
   unfold oG at hE
   split at hE
   ·split at hE
    ·split at hE
     ·simp only[afE]at hE
      subst hE
      intro p hp
      simp only[afS]at hp
      subst hp
      exact keyd _ hd (by simp) (by simp) (by simp)
     ·cases hE
    ·cases hE
   ·cases hE
  ·cases hE
 case binOp op ty x y ty' =>
  split at hE
  ·exact none_ _ hE
  ·cases hE
 case unOp op ty x =>
  split at hE
  ·exact none_ _ hE
  ·cases hE
 case makeFunc fn first caps =>
  split at hE
  ·split at hE
   ·exact none_ _ hE
   ·cases hE
  ·cases hE
 case convert s d x =>
  split at hE
  ·split at hE
   ·exact none_ _ hE
   ·cases hE
  ·cases hE
 case extract x i =>
  split at hE
  ·split at hE
   ·exact none_ _ hE
   ·cases hE
  ·cases hE
 case call c =>
  cases hc:c.callee with
  | invoke _ _=>rw[hc]at hE;cases hE
  | value f =>
   rw[hc]at hE
   simp only at hE
   have karg:∀d∈c.args.toList.map vs,∀x∈nm d,x∈fG o vs:=by
    intro d hd x hx
    obtain⟨y,hy,rfl⟩:=afu.1 hd
    exact key y (by simp only[Op.operands,Call.operands,agQ];exact afK _ hy) (by simp) (by simp) (by simp) _ hx
   have kdst:∀d,o.dst=some d->d∈fG o vs:=fun d hd=>keyd d hd (by simp) (by simp) (by simp)
   have kfn:∀x∈nm (vs f),x∈fG o vs:=key f (by simp[Op.operands,Call.operands,hc]) (by simp) (by simp) (by simp)
   generalize c.args.toList.map vs=ds at *
   unfold gn at hE
   split at hE
   ·split at hE
    ·intro p hp
     rcases K5 hE p hp with hh|⟨d,hd,hx⟩
     ·exact kdst _ hh
     ·exact karg d hd _ hx
    split at hE
    ·intro p hp
     obtain⟨d,hd,hx⟩:=K1 hE p hp
     exact karg d hd _ hx
    split at hE
    ·split at hE
     ·intro p hp
      rcases sG hE p hp with hh|hh|⟨d,hd,hx⟩
      ·exact kdst _ hh
      ·exact karg _ ag2 _ (by rw[hh];simp[nm,fO])
      ·exact karg d (ag3 _ hd) _ hx
     ·intro p hp
      rcases sG hE p hp with hh|hh|⟨d,hd,hx⟩
      ·exact kdst _ hh
      ·exact karg _ ag2 _ (by rw[hh];simp[nm,fO])
      ·exact karg d (ag3 _ hd) _ hx
     ·intro p hp
      rcases sG hE p hp with hh|hh|⟨d,hd,hx⟩
      ·exact kdst _ hh
      ·exact karg _ ag2 _ (by rw[hh];simp[nm,fO])
      ·exact karg d (ag3 _ hd) _ hx
     ·cases hE
    ·intro p hp
     rcases zB hE p hp with hh|⟨d,hd,hx⟩
     ·exact kdst _ hh
     ·exact karg d hd _ hx
   ·rename_i g kk caps hfv
    split at hE
    ·rename_i hok
     rw[afG]at hok
     have kcap:∀d∈caps,∀x∈nm d,x∈fG o vs:=fun d hd x hx=>by
      have:=hok d hd
      rw[Tj (fun f kk xs he=>by rw[he]at this;cases this)]at hx
      exact kfn _ (by rw[hfv];exact ag0.2 ⟨d,hd,hx⟩)
     intro p hp
     rcases zB hE p hp with hh|⟨d,hd,hx⟩
     ·exact kdst _ hh
     ·rcases agL.1 hd with hd|hd
      ·exact kcap d (agf hd) _ hx
      ·rcases agL.1 hd with hd|hd
       ·exact karg d hd _ hx
       ·exact kcap d (agd hd) _ hx
    ·cases hE
   ·cases hE
  | builtin b =>
   rw[hc]at hE
   simp only at hE
   unfold b6 at hE
   split at hE
   ·split at hE
    ·split at hE
     ·split at hE
      ·exact none_ _ hE
      ·exact none_ _ hE
      ·exact none_ _ hE
      ·cases hE
     ·split at hE
      ·exact none_ _ hE
      ·cases hE
     ·cases hE
    ·cases hE
   ·rename_i s x hargs
    obtain⟨ps,px,hl,rfl,rfl⟩:=Tf hargs
    split at hE
    ·split at hE
     ·rename_i hd
      intro p hp
      rcases A3 hE p hp with h1|h1
      ·rw[h1];exact keyd _ hd (by simp) (by simp) (by simp)
      ·exact key ps (by simp only[Op.operands,Call.operands,agQ];exact afK _ (by rw[hl];simp)) (by simp) (by simp) (by simp) _ h1
     ·cases hE
    ·cases hE
   ·split at hE
    ·exact none_ _ hE
    ·cases hE
   ·split at hE
    ·exact none_ _ hE
    ·cases hE
   ·cases hE
end
theorem dA {h h':Nat->Option Row} {k:Nat} (hk:h (rt k)=h' (rt k)):EH h k=EH h' k:=by
 unfold EH
 unfold rt at hk
 split
 ·rename_i hlt;rw[if_pos hlt]at hk;rw[hk]
 ·rename_i hlt;rw[if_neg hlt]at hk;rw[hk]
theorem bZ:PK=1000000:=rfl
theorem dX (x o:Nat):2*PK<=NK x o:=by unfold NK;rw[bZ];omega
theorem qv {x:Nat} (o:Nat) (hx:x<PK):NK x o % PK=x:=by
 unfold NK
 rw[Nat.mul_add_mod]
 exact agr hx
theorem BL {x:Nat} (o:Nat) (hx:x<PK):NK x o / PK-2=o:=by
 unfold NK
 rw[Nat.mul_add_div (by rw[bZ];decide),Nat.div_eq_of_lt hx]
 omega
theorem KG {k:Nat} (hk:2*PK<=k):k=NK (k % PK) (k / PK-2):=by
 unfold NK
 have h1:2<=k / PK:=by
  rw[Nat.le_div_iff_mul_le (by rw[bZ];decide)]
  exact hk
 have h2:k / PK-2+2=k / PK:=by omega
 rw[h2]
 exact (Nat.div_add_mod k PK).symm
theorem HF (k:Nat):k % PK<PK:=Nat.mod_lt _ (by rw[bZ];decide)
theorem rX {x o:Nat} (hx:x<PK):rt (NK x o)=x:=by
 unfold rt
 rw[if_neg (by have:=dX x o;omega),qv o hx]
theorem fX {k:Nat} (hk:k<2*PK):rt k=k:=if_pos hk
theorem pD {h:Nat->Option Row} {x o:Nat} (hx:x<PK):EH h (NK x o)=(h x).bind fun r=>oV r o:=by
 unfold EH
 rw[if_neg (by have:=dX x o;omega),qv o hx,BL o hx]
theorem pE {h:Nat->Option Row} {k:Nat} (hk:k<2*PK):EH h k=(h k).map (Bl k):=if_pos hk
theorem adC (y:Nat) (r:Row):(Bl y r).v=r.v∧(Bl y r).ty=r.ty∧(Bl y r).fz=r.fz∧(Bl y r).lst=r.lst∧(Bl y r).mp=r.mp:=by
 unfold Bl
 split<;>exact⟨rfl,rfl,rfl,rfl,rfl⟩
def LeC (d d':D):Prop:=d'=d∨((∃x s n,d=.ph x s n)∧d'=.und)
def RQ (r r':Row):Prop:=r'=r∨(r.mp=true∧∃cs,r' = { r with cells:=cs }∧cs.length=r.cells.length∧∀(j:Nat) d d',r.cells[j]? = some d->cs[j]? = some d'->LeC d d')∨(r.mp=false∧∃k,r' = { r with cells:=r.cells.take k })
def Bn (h h':Nat->Option Row):Prop:=∀k r',h' k=some r'->∃r,h k=some r∧RQ r r'
theorem RQ.refl (r:Row):RQ r r := .inl rfl
theorem Bn.refl (h:Nat->Option Row):Bn h h:=fun k r' hk=>⟨r',hk,.refl _⟩
theorem LeC.trans {a b c:D} (h:LeC a b) (k:LeC b c):LeC a c:=by
 rcases h with rfl|⟨h1,rfl⟩
 ·exact k
 ·rcases k with rfl|⟨⟨_,_,_,h2⟩,_⟩
  ·exact .inr ⟨h1,rfl⟩
  ·cases h2
theorem RQ.trans {a b c:Row} (h:RQ a b) (k:RQ b c):RQ a c:=by
 rcases h with rfl|⟨h1,cs,rfl,h2,h3⟩|⟨h1,n,rfl⟩
 ·exact k
 ·rcases k with rfl|⟨k1,cs',rfl,k2,k3⟩|⟨k1,_⟩
  ·exact .inr (.inl ⟨h1,cs,rfl,h2,h3⟩)
  ·refine .inr (.inl ⟨h1,cs',rfl,k2.trans h2,fun j d d' hd hd' =>?_⟩)
   have hlt:j<cs.length:=by
    have:=(afY.1 hd').1
    simp only at k2;omega
   exact (h3 j d _ hd (afI hlt)).trans (k3 j _ d' (afI hlt) hd')
  ·simp only at k1;rw[h1]at k1;cases k1
 ·rcases k with rfl|⟨k1,_⟩|⟨_,m,rfl⟩
  ·exact .inr (.inr ⟨h1,n,rfl⟩)
  ·simp only at k1;rw[h1]at k1;cases k1
  ·exact .inr (.inr ⟨h1,min m n,by simp[List.take_take]⟩)
theorem Bn.trans {a b c:Nat->Option Row} (h:Bn a b) (k:Bn b c):Bn a c:=fun x r hr=>by
 obtain⟨r1,h1,h2⟩:=k x r hr
 obtain⟨r2,h3,h4⟩:=h x r1 h1
 exact⟨r2,h3,h4.trans h2⟩
theorem Bn.bz {a b:Nat->Option Row} (h:Bn a b) (x:Nat) (r:Option Row):Bn (bz a x r) (bz b x r):=fun y r' hr=>by
 by_cases hy:y=x
 ·subst hy
  rw[aq]at hr ⊢
  exact⟨r',hr,.refl _⟩
 ·rw[au _ _ hy]at hr ⊢
  exact h y r' hr
theorem Bn.apply:∀(l:List (Nat×Option Row)) {a b:Nat->Option Row},Bn a b->Bn (aH a l) (aH b l)
 | [],_,_,h=>h
 | (x,r)::l,_,_,h=>Bn.apply l (h.bz x r)
theorem RQ.same {r r':Row} (h:RQ r r'):r'.v=r.v∧r'.ty=r.ty∧r'.fz=r.fz∧r'.lst=r.lst∧r'.mp=r.mp:=by
 rcases h with rfl|⟨_,cs,rfl,_⟩|⟨_,k,rfl⟩<;>exact⟨rfl,rfl,rfl,rfl,rfl⟩
theorem RQ.nil {r r':Row} (h:RQ r r') (h0:r.cells=[]):r'.cells=[]:=by
 rcases h with rfl|⟨_,cs,rfl,h2,_⟩|⟨_,k,rfl⟩
 ·exact h0
 ·rw[h0]at h2;exact agO h2
 ·simp[h0]
theorem RQ.cell {r r':Row} (h:RQ r r') {j:Nat} {d':D} (hd:r'.cells[j]? = some d') (hne:d' ≠ .und):r.cells[j]? = some d':=by
 rcases h with rfl|⟨_,cs,rfl,h2,h3⟩|⟨_,k,rfl⟩
 ·exact hd
 ·have hlt:j<r.cells.length:=by
   have:=(afY.1 hd).1
   simp only at this;omega
  rcases h3 j _ d' (afI hlt) hd with rfl|⟨_,rfl⟩
  ·exact afI hlt
  ·exact absurd rfl hne
 ·simp only[afL]at hd
  split at hd
  ·exact hd
  ·cases hd
theorem du.le {w:World} {M:Nat->Prop} {g:Nat×Nat} {r r':Row} (h:du w M g r) (hl:RQ r r'):du w M g r':=by
 rcases hl with rfl|⟨h1,cs,rfl,h2,h3⟩|⟨h1,k,rfl⟩
 ·exact h
 rotate_left
 ·unfold du at h ⊢
  simp only[h1]at h ⊢
  obtain⟨arr,k1,k2,k3⟩:=h
  refine⟨arr,k1,by simp only[afO];omega,fun j d hj =>?_⟩
  simp only[afL]at hj
  split at hj
  ·exact k3 j d hj
  ·cases hj
 ·unfold du at h ⊢
  simp only[h1]at h ⊢
  rcases h with⟨ks,vs,k1,k2⟩|⟨k1,arr,k2,k3,k4⟩
  ·have hcs:cs=r.cells:=by
    rw[k1]at h2
    match cs,h2 with
    | [d'],_ =>
     rcases h3 0 (.mpc ks vs) d' (by rw[k1];rfl) rfl with rfl|⟨⟨_,_,_,hh⟩,_⟩
     ·exact k1.symm
     ·cases hh
   subst hcs
   exact .inl ⟨ks,vs,k1,k2⟩
  ·have hat:∀(j:Nat) (d':D),cs[j]? = some d'->∃d,r.cells[j]? = some d∧LeC d d':=by
    intro j d' hd
    have hlt:j<r.cells.length:=by
     have:=(afY.1 hd).1
     omega
    exact⟨_,afI hlt,h3 j _ d' (afI hlt) hd⟩
   refine .inr ⟨fun d' hd =>?_,arr,k2,by simp only;omega,fun j d' hd =>?_⟩
   ·obtain⟨j,hj⟩:=afR hd
    obtain⟨d,hd1,hd2⟩:=hat j d' hj
    rcases hd2 with rfl|⟨_,rfl⟩
    ·exact k1 _ (afX hd1)
    ·rfl
   ·obtain⟨d,hd1,hd2⟩:=hat j d' hd
    rcases hd2 with rfl|⟨_,rfl⟩
    ·exact k4 j _ hd1
    ·trivial
section
variable {N:Nat} {M:Nat->Prop} {L:ik} {w0:World} {blk:Nat->Option (Nat×Nat)} {V:Nat->Nat->Prop} {t:Nat->D} {h h':Nat->Option Row} {a:Act} {w:World}
theorem za (hl:Bn h h') {b:Nat} (hb:¬Own M h blk b):¬Own M h' blk b:=by
 rintro (hb'|⟨x,r',g,hx,hz,hg,he⟩)
 ·exact hb (.inl hb')
 ·obtain⟨r,h1,h2⟩:=hl x r' hx
  exact hb (.inr ⟨x,r,g,h1,by rw[<- h2.same.2.2.1];exact hz,hg,he⟩)
theorem Dm (hl:Bn h h'):FT w w (Own M h blk) (Own M h' blk) h h' blk blk V V:=⟨fun b h1 h2=>⟨h1,za hl h2,rfl⟩,fun _ _ h=>h,fun x v _ r' h1 h2=>by
 obtain⟨r,k1,k2⟩:=hl x r' h1
 exact⟨⟨r,k1,by rw[<- k2.same.1];exact h2⟩,rfl,fun _ _=>rfl⟩⟩
theorem Inv.le (hI:Inv N M L w0 blk V t h a w) (hl:Bn h h'):Inv N M L w0 blk V t h' a w where
 tab:=hI.tab.keep fun b h1 h2=>⟨h1,za hl h2,rfl⟩
 below:=hI.below
 mlt:=hI.mlt
 lent:=hI.lent
 pin go hg:=⟨(hI.pin go hg).1,fun r' hr hv=>by
  obtain⟨r,k1,k2⟩:=hl 0 r' hr
  exact (hI.pin go hg).2 r k1 (by rw[<- k2.same.1];exact hv)⟩
 defers:=hI.defers
 tsz:=hI.tsz
 slots i:=(hI.slots i).mono (Dm hl)
 rows x r' hx:=by
  obtain⟨r,k1,k2⟩:=hl x r' hx
  obtain⟨h1,h2⟩:=hI.rows x r k1
  refine⟨fun hn=>by rw[k2.same.1];exact h1 hn,?_⟩
  cases hb:blk x with
  | none =>
   rw[hb]at h2
   exact k2.nil h2
  | some g =>
   rw[hb]at h2
   exact⟨h2.1,(du.le h2.2 k2).keep rfl rfl rfl rfl fun b q1 q2=>⟨q1,za hl q2,rfl⟩⟩
 inj x y r s g g' hx hy hg hg' he:=by
  obtain⟨r1,k1,_⟩:=hl x r hx
  obtain⟨r2,k2,_⟩:=hl y s hy
  exact hI.inj x y r1 r2 g g' k1 k2 hg hg' he
 big:=hI.big
 pha y r' g hy hm hg j x s n hc:=by
  obtain⟨r,k1,k2⟩:=hl y r' hy
  obtain⟨h0,u,q1,q2⟩:=hI.pha y r g k1 (by rw[<- k2.same.2.2.2.2];exact hm) hg j x s n (k2.cell hc (by intro h;cases h))
  exact⟨h0,u,q1,q2.mono fun r'' q3=>by
   obtain⟨r2,q4,_⟩:=hl x r'' q3
   exact⟨⟨r2,q4⟩,rfl,fun _ _=>rfl⟩⟩
 ali y r' g hy hz hls hg j c d' hj hd':=by
  obtain⟨r,k1,k2⟩:=hl y r' hy
  obtain⟨u,q1,q2⟩:=hI.ali y r g k1 (by rw[<- k2.same.2.2.1];exact hz) (by rw[<- k2.same.2.2.2.1];exact hls) hg j c d' (k2.cell hj (by intro h;subst h;cases hd')) hd'
  exact⟨u,q1,q2.mono (Dm hl)⟩
theorem aV.le {e:Nat} {dst:Option Nat} {E:bt} {v:Value} (hA:aV N M L w0 V t h a e dst E v w) (hl:Bn (aH h E.hw) h') :
  ∃blk',Inv N M L w0 blk' (fun x n=>V x n∨(dst=some x∧n=e)) t h' a w∧RT w (Own M h' blk') h' blk' (fun x n=>V x n∨(dst=some x∧n=e)) E.val v:=by
 obtain⟨blk',h1,h2⟩:=hA
 exact⟨blk',h1.le hl,h2.mono (Dm hl)⟩
end
theorem iD {cs:List D} {o:Nat} {d:D} (h:o<cs.length):(putCells cs o [d]).length=cs.length:=gU (show o+1<=cs.length from h)
theorem eP {cs:List D} {o:Nat} {d:D} (h:o<cs.length):(putCells cs o [d])[o]? = some d:=by
 rw[kh (show o+[d].length<=cs.length from h)]
 simp
theorem fP {cs:List D} {o j:Nat} {d:D} (h:o<cs.length) (hj:j≠o):(putCells cs o [d])[j]? = cs[j]?:=by
 rw[kh (show o+[d].length<=cs.length from h)]
 split
 ·rfl
 ·rw[if_neg (by simp;omega)]
def DI:Option Row->Option Row
 | some r=>if r.mp then (match r.cells with | [.nr _ _ _ _]=>none|_=>some r) else some r
 | none=>none
def HY (ty nv:Nat) (fz:Bool):Option Row->D->D
 | some r',.nx n _=>if r'.ty=ty∧r'.v=nv∧r'.fz=fz∧r'.lst=true∧r'.mp=false then .nx n r'.cells else .und
 | none,.nx n _ =>.und
 | _,d=>d
def zh (ty s nv:Nat) (fz:Bool) (cs:List D) (o:Nat) (r:Option Row):Option D->List D
 | some d=>[.nr ty s nv (putCells cs o [HY ty nv fz r d])]
 | none=>[.nr ty s nv cs]
def Ef (o:Nat) (r:Option Row) (q:Row):Row :=
 if q.mp then
  match q.cells with
  | [.nr ty s nv cs]=>{ q with cells:=zh ty s nv q.fz cs o r (cs.drop o).head? }
  | _=>q
 else q
def xW (h:Nat->Option Row) (k:Nat) (r:Option Row):Option Row:=@ite _ (k<2*PK) (ltB k (2*PK)) (DI r) ((h (k % PK)).map (Ef (k / PK-2) r))
def je (h:Nat->Option Row):List (Nat×Option Row)->List (Nat×Option Row)
 | []=>[]
 | (k,r)::l=>(rt k,xW h k r)::je (bz h (rt k) (xW h k r)) l
theorem y5 {r:Option Row} {q:Row} {o:Nat} (h:DI r=some q):r=some q∧oV q o=none∧∀y,Bl y q=q:=by
 unfold DI at h
 split at h
 ·rename_i r0
  split at h
  ·rename_i hmp
   split at h
   ·cases h
   ·rename_i hne
    simp only[afE]at h
    subst h
    refine⟨rfl,?_,fun y =>?_⟩
    ·unfold oV
     rw[if_pos hmp]
     unfold HG
     split
     ·rename_i hc;exact absurd hc (hne _ _ _ _)
     ·rfl
    ·unfold Bl
     rw[if_pos hmp]
     have:skL y r0.cells=r0.cells:=by
      unfold skL
      split
      ·rename_i hc;exact absurd hc (hne _ _ _ _)
      ·rfl
     rw[this]
  ·rename_i hmp
   simp only[afE]at h
   subst h
   exact⟨rfl,by unfold oV;rw[if_neg hmp],fun y=>by unfold Bl;rw[if_neg hmp]⟩
 ·cases h
theorem aaD (h:Nat->Option Row) (k:Nat) (r:Option Row):Bn (bz (EH h) k r) (EH (bz h (rt k) (xW h k r))):=by
 intro z r' hz
 by_cases hk:k<2*PK
 ·rw[fX hk]at hz
  unfold xW at hz
  rw[if_pos hk]at hz
  by_cases hzl:z<2*PK
  ·rw[pE hzl]at hz
   by_cases hzk:z=k
   ·subst hzk
    rw[aq]at hz ⊢
    rw[aft]at hz
    obtain⟨q,h1,rfl⟩:=hz
    obtain⟨h2,_,h3⟩:=y5 (o:=0) h1
    rw[h3]
    exact⟨q,h2,.refl _⟩
   ·rw[au _ _ hzk]at hz ⊢
    rw[<- pE hzl]at hz
    exact⟨r',hz,.refl _⟩
  ·rw[au _ _ (by omega)]
   unfold EH at hz
   rw[if_neg hzl]at hz
   by_cases hzk:z % PK=k
   ·rw[hzk,aq]at hz
    rw[Option.bind_eq_some_iff]at hz
    obtain⟨q,h1,h2⟩:=hz
    rw[(y5 (o:=z / PK-2) h1).2.1]at h2
    cases h2
   ·rw[au _ _ hzk]at hz
    exact⟨r',by unfold EH;rw[if_neg hzl];exact hz,.refl _⟩
 ·have hkn:=KG (ahc hk)
  have hroot:=HF k
  generalize k % PK=x at hkn hroot
  generalize k / PK-2=o at hkn
  subst hkn
  rw[rX hroot]at hz
  have hp1:xW h (NK x o) r=(h x).map (Ef o r):=by
   unfold xW
   rw[if_neg hk,qv o hroot,BL o hroot]
  rw[hp1]at hz
  cases hx:h x with
  | none =>
   rw[hx]at hz
   simp only[Option.map_none]at hz
   have hzz:EH h z=some r':=by
    rw[<- hz]
    apply dA
    by_cases hzx:rt z=x
    ·rw[hzx,aq,hx]
    ·rw[au _ _ hzx]
   by_cases hzk:z=NK x o
   ·subst hzk
    rw[pD hroot,hx]at hzz
    cases hzz
   ·rw[au _ _ hzk]
    exact⟨r',hzz,.refl _⟩
  | some q =>
   rw[hx]at hz
   simp only[Option.map_some]at hz
   by_cases hzx:rt z=x
   rotate_left
   ·have:EH h z=some r':=by rw[<- hz];exact dA (by rw[au _ _ hzx])
    refine⟨r',?_,.refl _⟩
    rw[au _ _ (fun e=>hzx (by rw[e,rX hroot]))]
    exact this
   by_cases hnr:q.mp=true∧∃ty s nv cs,q.cells=[.nr ty s nv cs]
   rotate_left
   ·have hq:Ef o r q=q:=by
     unfold Ef
     split
     ·rename_i hmp
      split
      ·rename_i ty s nv cs hc;exact absurd ⟨hmp,_,_,_,_,hc⟩ hnr
      ·rfl
     ·rfl
    rw[hq]at hz
    have hzz:EH h z=some r':=by
     rw[<- hz]
     exact dA (by rw[hzx,aq,hx])
    by_cases hzk:z=NK x o
    ·subst hzk
     rw[pD hroot,hx]at hzz
     simp only[Option.bind_some]at hzz
     unfold oV at hzz
     split at hzz
     ·rename_i hmp
      unfold HG at hzz
      split at hzz
      ·rename_i hc;exact absurd ⟨hmp,_,_,_,_,hc⟩ hnr
      ·cases hzz
     ·cases hzz
    ·rw[au _ _ hzk]
     exact⟨r',hzz,.refl _⟩
   obtain⟨hmp,ty,s,nv,cs,hc⟩:=hnr
   have hq:Ef o r q = { q with cells:=zh ty s nv q.fz cs o r (cs.drop o).head? }:=by
    unfold Ef
    rw[if_pos hmp,hc]
   rw[hq]at hz
   obtain⟨cs',hcs',hat⟩:∃cs':List D,zh ty s nv q.fz cs o r (cs.drop o).head? = [.nr ty s nv cs']∧cs'.length=cs.length∧(∀j,j≠o->cs'[j]? = cs[j]?)∧∀d',cs'[o]? = some d'->∃d,cs[o]? = some d∧d'=HY ty nv q.fz r d:=by
    rw[ahX]
    cases hd:cs[o]? with
    | none=>exact⟨cs,rfl,rfl,fun _ _=>rfl,fun d' hd'=>by rw[hd]at hd';cases hd'⟩
    | some d =>
     have hlt:=(afY.1 hd).1
     refine⟨_,rfl,iD hlt,fun j hj=>fP hlt hj,fun d' hd'=>⟨d,rfl,?_⟩⟩
     rw[eP hlt]at hd'
     simpa using hd'.symm
   rw[hcs']at hz
   obtain⟨hlen,hne,hso⟩:=hat
   by_cases hzl:z<2*PK
   ·rw[fX hzl]at hzx
    subst hzx
    rw[pE hzl,aq]at hz
    simp only[Option.map_some,afE]at hz
    subst hz
    rw[au _ _ (by have:=dX z o;omega),pE hzl,hx]
    refine⟨Bl z q,rfl,.inr (.inl ⟨by rw[(adC z q).2.2.2.2,hmp],cs'.mapIdx (ow z s),?_,?_,fun j d d' hd hd' =>?_⟩)⟩
    ·unfold Bl
     simp only[hmp,if_true,skL]
    ·unfold Bl
     simp only[hmp,if_true,skL,hc,ahY,hlen]
    ·unfold Bl at hd
     simp only[hmp,if_true,skL,hc,ahZ,aft]at hd
     rw[ahZ,aft]at hd'
     obtain⟨d0,hd0,rfl⟩:=hd
     obtain⟨d1,hd1,rfl⟩:=hd'
     by_cases hjo:j=o
     ·subst hjo
      obtain⟨d2,k1,rfl⟩:=hso _ hd1
      rw[hd0]at k1
      cases k1
      cases d0 with
      | nx n xs =>
       cases r with
       | none=>exact .inr ⟨⟨_,_,_,rfl⟩,rfl⟩
       | some r0 =>
        simp only[HY]
        split
        ·exact .inl rfl
        ·exact .inr ⟨⟨_,_,_,rfl⟩,rfl⟩
      | _=>cases r<;>exact .inl rfl
     ·rw[hne j hjo,hd0]at hd1
      cases hd1
      exact .inl rfl
   ·have hzn:=KG (ahc hzl)
    have hzx':z % PK=x:=by unfold rt at hzx;rwa [if_neg hzl]at hzx
    rw[hzx']at hzn
    generalize z / PK-2=oz at hzn
    subst hzn
    rw[pD hroot,aq]at hz
    simp only[Option.bind_some]at hz
    unfold oV at hz
    simp only[hmp,if_true,HG,ahX]at hz
    by_cases hoo:oz=o
    ·subst hoo
     rw[aq]
     cases hd:cs'[oz]? with
     | none=>rw[hd]at hz;cases hz
     | some d' =>
      obtain⟨d,k1,rfl⟩:=hso d' hd
      rw[hd]at hz
      cases r with
      | none=>cases d<;>cases hz
      | some r0 =>
       cases d with
       | nx n xs =>
        simp only[HY]at hz
        split at hz
        ·rename_i hcond
         obtain⟨rfl,rfl,h3,h4,h5⟩:=hcond
         simp only[DH,afE]at hz
         subst hz
         refine⟨r0,rfl,.inl ?_⟩
         cases r0
         simp only at h3 h4 h5 ⊢
         rw[h3,h4,h5]
        ·cases hz
       | _=>cases hz
    ·have hkk:NK x oz≠NK x o:=by
      unfold NK
      rw[bZ]
      omega
     rw[au _ _ hkk,pD hroot,hx]
     rw[hne oz hoo]at hz
     refine⟨r',?_,.refl _⟩
     simp only[Option.bind_some]
     unfold oV
     simp only[hmp,if_true,hc,HG,ahX]
     exact hz
theorem Mj:∀(l:List (Nat×Option Row)) (h:Nat->Option Row),Bn (aH (EH h) l) (EH (aH h (je h l)))
 | [],h =>.refl _
 | (k,r)::l,h=>(Bn.apply l (aaD h k r)).trans (Mj l _)
def bump (nv e:Nat):Option Nat:=if nv<=4*e then some (4*e+1) else if nv=4*e+2 then some (4*e+3) else none
def nrO (r:Row):List D->Option (Row×Nat×Nat×Nat×List D)
 | [.nr ty s nv cs]=>some (r,ty,s,nv,cs)
 | _=>none
def eU (h:Nat->Option Row) (x v:Nat):Option (Row×Nat×Nat×Nat×List D) :=
 match h x with
 | some r=>if r.v=v∧r.fz=false∧r.mp=true∧x<PK then nrO r r.cells else none
 | none=>none
theorem gg {h:Nat->Option Row} {x v:Nat} {r:Row} {ty s nv:Nat} {cs:List D} (hl:eU h x v=some (r,ty,s,nv,cs)):h x=some r∧r.v=v∧r.fz=false∧r.mp=true∧x<PK∧r.cells=[.nr ty s nv cs]:=by
 unfold eU at hl
 split at hl
 ·rename_i r0 hx
  split at hl
  ·rename_i hc
   obtain⟨c1,c2,c3,c4⟩:=hc
   unfold nrO at hl
   split at hl
   ·rename_i hcc
    simp only[afE,Prod.mk.injEq]at hl
    obtain⟨rfl,rfl,rfl,rfl,rfl⟩:=hl
    exact⟨hx,c1,c2,c3,c4,hcc⟩
   ·cases hl
  ·cases hl
 ·cases hl
theorem eu {d:D} (hd:er d=true):aS d=true∧phC d=true∧∀ {w:World} {M:Nat->Prop} {u:Value},BM w M d u↔RP w M d u:=by
 cases d<;>first|exact⟨rfl,rfl,Iff.rfl⟩|cases hd
def VW:D->D
 | .nx n xs =>.sl false false n xs
 | d=>d
theorem eR {h:Nat->Option Row} {x:Nat} {r:Row} {ty s nv:Nat} {cs:List D} (hx:h x=some r) (hm:r.mp=true) (hc:r.cells=[.nr ty s nv cs]) (hp:x<PK):EH h x=some ⟨r.v,r.ty,cs.mapIdx (ow x s),r.fz,r.lst,true⟩:=by
 rw[pE (by have:=bZ;omega),hx]
 simp only[Option.map_some,Bl,hm,if_true,hc,skL]
theorem dP {h:Nat->Option Row} {x:Nat} {r:Row} {ty s nv:Nat} {cs:List D} (hx:h x=some r) (hm:r.mp=true) (hc:r.cells=[.nr ty s nv cs]) (hp:x<PK) (o:Nat):EH h (NK x o)=DH ty nv r.fz cs[o]?:=by
 rw[pD hp,hx]
 simp only[Option.bind_some,oV,hm,if_true,hc,HG,ahX]
theorem qu {x x' o o':Nat} (hx:x<PK) (hx':x'<PK) (h:NK x o=NK x' o'):x=x'∧o=o':=by
 unfold NK at h
 rw[bZ]at *
 omega
def FV (w:World) (blk:Nat->Option (Nat×Nat)) (k s n:Nat) (u:Value):Prop :=
 (∃g c N' ty,blk k=some g∧u=.slice (some ⟨g.1,g.2,none⟩) n c∧c*s+g.2=N'∧n<=c∧c<=maxLen∧w.shape? g.1=some (ty,N'))∨(blk k=none∧n=0∧∃A,u=.slice A 0 0)
section
variable {P:Program} {T:Nat->Option Ty} {N:Nat} {M:Nat->Prop} {L:ik} {w0:World} {blk:Nat->Option (Nat×Nat)} {V:Nat->Nat->Prop} {t:Nat->D} {h:Nat->Option Row} {a:Act} {w:World} {e:Nat} {o:Oper} {Γ:Env}
theorem Inv.Aq (hI:Inv N M L w0 blk V t (EH h) a w) {x:Nat} {r:Row} {ty s nv:Nat} {cs:List D} {g:Nat×Nat} (hx:h x=some r) (hm:r.mp=true) (hc:r.cells=[.nr ty s nv cs]) (hp:x<PK) (hg:blk x=some g) :
  ∃arr:Array Value,w.heap[g.1]? = some (.cells arr r.ty (0,0))∧g.2+cs.length<=arr.size∧∀(j:Nat) d,cs[j]? = some d->er d=true->RP w (Own M (EH h) blk) d (arr.getD (g.2+j) undef):=by
 have hri:=hI.rowIs (eR hx hm hc hp) hg
 unfold du at hri
 simp only at hri
 rcases hri with⟨ks,vs,k1,_⟩|⟨k1,arr,k2,k3,k4⟩
 ·exfalso
  simp only at k1
  have hl:cs.length=1:=by
   have:=congrArg List.length k1
   simpa using this
  match cs,hl with
  | [d],_ =>
   simp only[List.mapIdx_cons,List.mapIdx_nil,afT,and_true]at k1
   have:=jK x s 0 d
   rw[k1]at this
   cases this
 ·simp only[ahY]at k3
  refine⟨arr,k2,k3,fun j d hj hd =>?_⟩
  have hj':(cs.mapIdx (ow x s))[j]? = some d:=by rw[ahZ,hj];exact congrArg some (iI hd)
  exact (eu hd).2.2.1 (k4 j _ hj')
theorem Inv.DL (hI:Inv N M L w0 blk V t (EH h) a w) {x:Nat} {r:Row} {ty s nv n o:Nat} {cs xs:List D} {g:Nat×Nat} (hx:h x=some r) (hm:r.mp=true) (hc:r.cells=[.nr ty s nv cs]) (hp:x<PK) (hg:blk x=some g) (ho:cs[o]? = some (.nx n xs)) :
  ∃u,w.cell? ⟨g.1,g.2+o,none⟩=some u∧FV w blk (NK x o) s n u:=by
 obtain⟨_,u,h1,h2⟩:=hI.pha x _ g (eR hx hm hc hp) rfl hg o (NK x o) s n (by simp only[ahZ,ho,Option.map_some,ow])
 have hq:=dP hx hm hc hp o
 rw[ho]at hq
 exact⟨u,h1,h2 _ hq⟩
def aao:D->D->D
 | .nx n _,.nx _ xs' =>.nx n xs'
 | .nx _ _,_ =>.und
 | d,_=>d
def tj (cs cs':List D):List D:=List.zipWith aao cs cs'
theorem mz {x k:Nat} (hk:rt k=x):k=x∨∃o,k=NK x o:=by
 by_cases hk2:k<2*PK
 ·rw[fX hk2]at hk;exact .inl hk
 ·have:=KG (ahc hk2)
  unfold rt at hk
  rw[if_neg hk2]at hk
  rw[hk]at this
  exact .inr ⟨_,this⟩
theorem acd (cs cs':List D) (j:Nat):(tj cs cs')[j]? = match cs[j]?,cs'[j]? with|some d,some d'=>some (aao d d')|_,_=>none:=by
 unfold tj
 rw[List.getElem?_zipWith]
 cases cs[j]?<;>cases cs'[j]?<;>rfl
theorem QQ {x:Nat} {r:Row} {ty s nv:Nat} {cs cs':List D} (hx:h x=some r) (hm:r.mp=true) (hc:r.cells=[.nr ty s nv cs]) (hz:r.fz=false) (hp:x<PK) (hlen:cs'.length=cs.length)
  (hnx:∀(j:Nat) n' xs',cs'[j]? = some (.nx n' xs')->∃n xs k,cs[j]? = some (.nx n xs)∧xs'=xs.take k):Bn (EH h) (EH (bz h x (some ⟨r.v,r.ty,[.nr ty s nv (tj cs cs')],false,r.lst,true⟩))):=by
 have hmid:=acd cs cs'
 have hml:(tj cs cs').length=cs.length:=by simp[tj,hlen]
 have hat:∀(j:Nat) d,cs[j]? = some d->∃d',cs'[j]? = some d':=by
  intro j d hj
  have:=(afY.1 hj).1
  exact⟨_,afI (by omega)⟩
 have hat':∀(j:Nat) d',cs'[j]? = some d'->∃d,cs[j]? = some d:=by
  intro j d hj
  have:=(afY.1 hj).1
  exact⟨_,afI (by omega)⟩
 generalize hD:bz h x (some ⟨r.v,r.ty,[.nr ty s nv (tj cs cs')],false,r.lst,true⟩)=hh
 have hDx:hh x=some ⟨r.v,r.ty,[.nr ty s nv (tj cs cs')],false,r.lst,true⟩:=by rw[<- hD,aq]
 have hDne:∀y,y≠x->hh y=h y:=fun y hy=>by rw[<- hD,au _ _ hy]
 have hrt:∀ {h1 h2:Nat->Option Row},(∀y,y≠x->h1 y=h2 y)->∀k,rt k≠x->EH h1 k=EH h2 k:=fun he k hk=>dA (he _ hk)
 have hkey:∀k,rt k=x->k=x∨∃o,k=NK x o:=by
  intro k hk
  by_cases hk2:k<2*PK
  ·rw[fX hk2]at hk;exact .inl hk
  ·have:=KG (ahc hk2)
   unfold rt at hk
   rw[if_neg hk2]at hk
   rw[hk]at this
   exact .inr ⟨_,this⟩
 intro k r' hk
 by_cases hkx:rt k=x
 rotate_left
 ·exact⟨r',by rw[<- hk];exact hrt (fun y hy=>(hDne y hy).symm) k hkx,.refl _⟩
 rcases hkey k hkx with rfl|⟨o,rfl⟩
 ·rw[eR hDx rfl rfl hp]at hk
  simp only[afE]at hk
  subst hk
  refine⟨_,eR hx hm hc hp,.inr (.inl ⟨rfl,(tj cs cs').mapIdx (ow k s),by rw[hz],by simp[hml],fun j d d' hd hd' =>?_⟩)⟩
  simp only[ahZ,aft]at hd hd'
  obtain⟨d0,hd0,rfl⟩:=hd
  obtain⟨d1,hd1,rfl⟩:=hd'
  obtain⟨d2,hd2⟩:=hat j d0 hd0
  rw[hmid,hd0,hd2]at hd1
  simp only[afE]at hd1
  subst hd1
  cases d0 with
  | nx n xs =>
   cases d2 with
   | nx n' xs'=>exact .inl rfl
   | _=>exact .inr ⟨⟨_,_,_,rfl⟩,rfl⟩
  | _=>exact .inl rfl
 ·rw[dP hDx rfl rfl hp,hmid]at hk
  cases hd:cs[o]? with
  | none=>rw[hd]at hk;cases hk
  | some d =>
   obtain⟨d',hd'⟩:=hat o d hd
   rw[hd,hd']at hk
   cases d with
   | nx n xs =>
    cases d' with
    | nx n' xs' =>
     obtain⟨n0,xs0,k,e1,e2⟩:=hnx o n' xs' hd'
     rw[hd]at e1
     cases e1
     simp only[aao,DH,afE]at hk
     subst hk
     refine⟨_,by rw[dP hx hm hc hp,hd];rfl,.inr (.inr ⟨rfl,k,by rw[e2,hz]⟩)⟩
    | _=>cases hk
   | _=>cases hk
theorem Inv.zh (hI:Inv N M L w0 blk V t (EH h) a w) {x:Nat} {r:Row} {ty s nv:Nat} {cs cs':List D} (hx:h x=some r) (hm:r.mp=true) (hc:r.cells=[.nr ty s nv cs]) (hz:r.fz=false) (hp:x<PK) (hlen:cs'.length=cs.length) {w':World}
  (hos:w'.os=w.os) (htape:w'.tape=w.tape) (hout:w'.output=w.output) (hsize:w.heap.size<=w'.heap.size) (hheap:∀b,b<w.heap.size->(∀g,blk x=some g->b≠g.1)->w'.heap[b]? = w.heap[b]?)
  (hnx:∀(j:Nat) n' xs',cs'[j]? = some (.nx n' xs')->∃n xs k,cs[j]? = some (.nx n xs)∧xs'=xs.take k)
  (hnew:∀g,blk x=some g->w'.shape? g.1=w.shape? g.1∧∃arr:Array Value,w'.heap[g.1]? = some (.cells arr r.ty (0,0))∧g.2+cs.length<=arr.size∧∀(j:Nat) d,cs'[j]? = some d ->
   (er d=true->RP w' (Own M (EH (bz h x (some ⟨r.v,r.ty,[.nr ty s nv (tj cs cs')],false,r.lst,true⟩))) blk) d (arr.getD (g.2+j) undef))∧∀n' xs',d=.nx n' xs'->FV w blk (NK x j) s n' (arr.getD (g.2+j) undef)) :
  Inv N M L w0 blk V t (EH (bz h x (some ⟨r.v,r.ty,[.nr ty s nv cs'],false,r.lst,true⟩))) a w':=by
 have hmid:∀(j:Nat),(tj cs cs')[j]? = match cs[j]?,cs'[j]? with|some d,some d'=>some (aao d d')|_,_=>none:=by
  intro j
  unfold tj
  rw[List.getElem?_zipWith]
  cases cs[j]?<;>cases cs'[j]?<;>rfl
 have hml:(tj cs cs').length=cs.length:=by simp[tj,hlen]
 have hat:∀(j:Nat) d,cs[j]? = some d->∃d',cs'[j]? = some d':=by
  intro j d hj
  have:=(afY.1 hj).1
  exact⟨_,afI (by omega)⟩
 have hat':∀(j:Nat) d',cs'[j]? = some d'->∃d,cs[j]? = some d:=by
  intro j d hj
  have:=(afY.1 hj).1
  exact⟨_,afI (by omega)⟩
 generalize hD:bz h x (some ⟨r.v,r.ty,[.nr ty s nv (tj cs cs')],false,r.lst,true⟩)=hh at hnew
 have hDx:hh x=some ⟨r.v,r.ty,[.nr ty s nv (tj cs cs')],false,r.lst,true⟩:=by rw[<- hD,aq]
 have hDne:∀y,y≠x->hh y=h y:=fun y hy=>by rw[<- hD,au _ _ hy]
 have hrt:∀ {h1 h2:Nat->Option Row},(∀y,y≠x->h1 y=h2 y)->∀k,rt k≠x->EH h1 k=EH h2 k:=fun he k hk=>dA (he _ hk)
 have hkey:∀k,rt k=x->k=x∨∃o,k=NK x o:=by
  intro k hk
  by_cases hk2:k<2*PK
  ·rw[fX hk2]at hk;exact .inl hk
  ·have:=KG (ahc hk2)
   unfold rt at hk
   rw[if_neg hk2]at hk
   rw[hk]at this
   exact .inr ⟨_,this⟩
 have hle:Bn (EH h) (EH hh):=by rw[<- hD];exact QQ hx hm hc hz hp hlen hnx
 have hA:=hI.le hle
 have hB:=hA.iH (x:=x) (r:=⟨r.v,r.ty,(tj cs cs').mapIdx (ow x s),false,r.lst,true⟩) (r0:=⟨r.v,r.ty,cs'.mapIdx (ow x s),false,r.lst,true⟩) (w':=w') (eR hDx rfl rfl hp) rfl rfl hos htape hout hsize hheap (by
   cases hb:blk x with
   | none =>
    have:=(hI.rows x _ (eR hx hm hc hp)).2
    rw[hb]at this
    have h1:cs.mapIdx (ow x s)=[]:=this
    have h2:cs.length=0:=by
     have:=congrArg List.length h1
     simpa using this
    show cs'.mapIdx (ow x s)=[]
    rw[agO (hlen.trans h2)]
    rfl
   | some g =>
    obtain⟨k1,arr,k2,k3,k4⟩:=hnew g hb
    refine⟨k1,.inr ⟨fun d hd =>?_,arr,k2,by simp only[ahY];omega,fun j d hj =>?_⟩⟩
    ·obtain⟨j,hj⟩:=afR hd
     simp only[ahZ,aft]at hj
     obtain⟨d0,hd0,rfl⟩:=hj
     exact jK _ _ _ _
    ·simp only[ahZ,aft]at hj
     obtain⟨d0,hd0,rfl⟩:=hj
     by_cases hdd:er d0=true
     ·rw[iI hdd]
      exact (eu hdd).2.2.2 ((k4 j d0 hd0).1 hdd)
     ·cases d0<;>first|trivial|exact absurd rfl hdd) (fun h=>by cases h) (fun _ g hg j x' s' n' hj=>by
   obtain⟨k1,arr,k2,k3,k4⟩:=hnew g hg
   simp only[ahZ,aft]at hj
   obtain⟨d0,hd0,he⟩:=hj
   obtain⟨xs1,rfl,rfl,rfl⟩:=oh he
   have hlt:=(afY.1 hd0).1
   exact⟨⟨hp,.inr rfl⟩,_,aK k2 (by omega),fun _ _=>(k4 j _ hd0).2 n' xs1 rfl⟩)
 have hfin:bz (EH hh) x (some (⟨r.v,r.ty,cs'.mapIdx (ow x s),false,r.lst,true⟩:Row))=EH (bz h x (some ⟨r.v,r.ty,[.nr ty s nv cs'],false,r.lst,true⟩)):=by
  have hx':bz h x (some (⟨r.v,r.ty,[.nr ty s nv cs'],false,r.lst,true⟩:Row)) x=some ⟨r.v,r.ty,[.nr ty s nv cs'],false,r.lst,true⟩:=aq _ _ _
  funext k
  by_cases hkx:rt k=x
  rotate_left
  ·rw[au _ _ (fun e=>hkx (by rw[e,fX (by have:=bZ;omega)]))]
   exact hrt (fun y hy=>by rw[hDne y hy,au _ _ hy]) k hkx
  rcases hkey k hkx with rfl|⟨o,rfl⟩
  ·rw[aq,eR hx' rfl rfl hp]
  ·rw[au _ _ (by have:=dX x o;have:=bZ;omega),dP hDx rfl rfl hp,dP hx' rfl rfl hp,hmid]
   cases hd':cs'[o]? with
   | none=>cases cs[o]?<;>rfl
   | some d' =>
    obtain⟨d,hd⟩:=hat' o d' hd'
    rw[hd]
    cases d' with
    | nx n' xs' =>
     obtain⟨n0,xs0,k,e1,_⟩:=hnx o n' xs' hd'
     rw[hd]at e1
     cases e1
     rfl
    | _=>cases d<;>rfl
 rw[<- hfin]
 exact hB
theorem Inv.adA (hI:Inv N M L w0 blk V t h a w) (S:Nat->Prop) (nv:Nat) (hS:∀k,S k->N<=k∧k≠0∧¬V k nv) {h':Nat->Option Row} (he:∀k,S k->h' k=(h k).map fun r=>{ r with v:=nv }) (hne:∀k,¬S k->h' k=h k):Inv N M L w0 blk V t h' a w:=by
 have hf:∀x r',h' x=some r'->∃r,h x=some r∧r' = { r with v:=r'.v }∧(¬S x->r'=r)∧(S x->r'.v=nv):=by
  intro x r' hx
  by_cases hs:S x
  ·rw[he x hs,aft]at hx
   obtain⟨r,h1,rfl⟩:=hx
   exact⟨r,h1,rfl,fun hn=>absurd hs hn,fun _=>rfl⟩
  ·rw[hne x hs]at hx
   exact⟨r',hx,rfl,fun _=>rfl,fun h=>absurd h hs⟩
 have hsame:∀ {r r':Row},r' = { r with v:=r'.v }->r'.ty=r.ty∧r'.cells=r.cells∧r'.fz=r.fz∧r'.lst=r.lst∧r'.mp=r.mp:=by
  intro r r' h
  rw[h]
  exact⟨rfl,rfl,rfl,rfl,rfl⟩
 have ho:∀b,¬Own M h blk b->¬Own M h' blk b:=by
  intro b hb hb'
  rcases hb' with hb'|⟨x,r',g,hx,hz,hg,e⟩
  ·exact hb (.inl hb')
  ·obtain⟨r,h1,h2,_⟩:=hf x r' hx
   exact hb (.inr ⟨x,r,g,h1,by rw[<- (hsame h2).2.2.1];exact hz,hg,e⟩)
 have hkp:FT w w (Own M h blk) (Own M h' blk) h h' blk blk V V:=⟨fun b h1 h2=>⟨h1,ho b h2,rfl⟩,fun _ _ h=>h,fun x v hv r' h1 h2=>by
  obtain⟨r,k1,k2,k3,k4⟩:=hf x r' h1
  by_cases hs:S x
  ·rw[k4 hs]at h2
   subst h2
   exact absurd hv (hS x hs).2.2
  ·obtain rfl:=k3 hs
   exact⟨⟨r',k1,h2⟩,rfl,fun _ _=>rfl⟩⟩
 exact {
  tab:=hI.tab.keep fun b h1 h2=>⟨h1,ho b h2,rfl⟩
  below:=hI.below
  mlt:=hI.mlt
  lent:=hI.lent
  pin:=fun go hg=>⟨(hI.pin go hg).1,fun r' hr hv=>by
   obtain⟨r,k1,k2,k3,k4⟩:=hf 0 r' hr
   obtain rfl:=k3 (fun hs=>(hS 0 hs).2.1 rfl)
   exact (hI.pin go hg).2 r' k1 hv⟩
  defers:=hI.defers
  tsz:=hI.tsz
  slots:=fun i=>(hI.slots i).mono hkp
  rows:=fun x r' hx=>by
   obtain⟨r,k1,k2,k3,k4⟩:=hf x r' hx
   obtain⟨h1,h2⟩:=hI.rows x r k1
   refine⟨fun hn =>?_,?_⟩
   ·obtain rfl:=k3 (fun hs=>by have:=(hS x hs).1;omega)
    exact h1 hn
   ·cases hb:blk x with
    | none=>rw[hb]at h2;exact (hsame k2).2.1.trans h2
    | some g =>
     rw[hb]at h2
     exact⟨h2.1,h2.2.keep (hsame k2).2.1 (hsame k2).1 (hsame k2).2.2.2.2 rfl fun b q1 q2=>⟨q1,ho b q2,rfl⟩⟩
  inj:=fun x y r s g g' hx hy hg hg' e=>by
   obtain⟨r1,k1,_⟩:=hf x r hx
   obtain⟨r2,k2,_⟩:=hf y s hy
   exact hI.inj x y r1 r2 g g' k1 k2 hg hg' e
  big:=hI.big
  pha:=fun y r' g hy hm hg j x s n hc=>by
   obtain⟨r,k1,k2,_⟩:=hf y r' hy
   obtain⟨h0,u,q1,q2⟩:=hI.pha y r g k1 (by rw[<- (hsame k2).2.2.2.2];exact hm) hg j x s n (by rw[<- (hsame k2).2.1];exact hc)
   exact⟨h0,u,q1,q2.mono fun r'' q3=>by
    obtain⟨r2,q4,_⟩:=hf x r'' q3
    exact⟨⟨r2,q4⟩,rfl,fun _ _=>rfl⟩⟩
  ali:=fun y r' g hy hz hls hg j c d' hj hd'=>by
   obtain⟨r,k1,k2,_⟩:=hf y r' hy
   obtain⟨u,q1,q2⟩:=hI.ali y r g k1 (by rw[<- (hsame k2).2.2.1];exact hz) (by rw[<- (hsame k2).2.2.2.1];exact hls) hg j c d' (by rw[<- (hsame k2).2.1];exact hj) hd'
   exact⟨u,q1,q2.mono hkp⟩ }
end
def Dn (τ:Ty) (x s nv o:Nat) (cs:List D):Option D->Option bt
 | some (.nx n xs)=>if τ.size=1∧τ.ds.nd=false then some ⟨.buf (NK x o) nv s 0 n,[]⟩ else none
 | some _=>if o+τ.size<=cs.length∧((cs.drop o).take τ.size).all er=true then (match iB τ ((cs.drop o).take τ.size) with|some d=>some ⟨d,[]⟩|none=>none) else none
 | none=>none
def nK (τ:Ty) (h:Nat->Option Row):D->Option bt
 | .ptr x v o =>
  match eU h x v with
  | some (r,ty,s,nv,cs)=>Dn τ x s nv o cs (cs.drop o).head?
  | none=>none
 | _=>none
def zj (x:Nat) (r:Row) (ty s nv:Nat) (cs:List D) (o n:Nat):Option D->Option bt
 | some (.nx n0 xs)=>if n*s<=xs.length then some ⟨.und,[(x,some ⟨r.v,r.ty,[.nr ty s nv (putCells cs o [.nx n (xs.take (n*s))])],false,r.lst,true⟩)]⟩ else none
 | _=>none
def zk (x:Nat) (r:Row) (ty s:Nat) (cs:List D) (o y n:Nat) (q:Row):Option Nat->Option bt
 | some nv'=>some ⟨.und,[(y,none),(x,some ⟨r.v,r.ty,[.nr ty s nv' (putCells cs o [.nx n q.cells])],false,r.lst,true⟩)]⟩
 | none=>none
def plV:D->Option (List D)
 | .agg xs=>some xs
 | .int k n=>some [.int k n]
 | .bool b=>some [.bool b]
 | .str s=>some [.str s]
 | .sl a b n xs=>some [.sl a b n xs]
 | _=>none
def zl (τ:Ty) (x:Nat) (r:Row) (ty s nv:Nat) (cs:List D) (o:Nat):Option (List D)->Option bt
 | some c'=>if c'.length=τ.size∧c'.all er=true then some ⟨.und,[(x,some ⟨r.v,r.ty,[.nr ty s nv (putCells cs o (c'.map canon))],false,r.lst,true⟩)]⟩ else none
 | none=>none
def vr (τ:Ty) (e:Nat) (h:Nat->Option Row) (x:Nat) (r:Row) (ty s nv:Nat) (cs:List D) (o:Nat):D->Option bt
 | .buf y vy s' oy n =>
  if τ.size=1∧s'=s∧oy=0 then
   if y=NK x o then (if vy=nv then zj x r ty s nv cs o n (cs.drop o).head? else none)
   else if y<PK then
    match live h y vy with
    | some q=>if q.fz=false∧q.lst=true∧q.ty=ty∧q.cells.length=n*s then zk x r ty s cs o y n q (bump nv e) else none
    | none=>none
   else none
  else none
 | d=>zl τ x r ty s nv cs o (plV d)
def lp (τ:Ty) (e:Nat) (h:Nat->Option Row) (p d:D):Option bt :=
 match p with
 | .ptr x v o =>
  match eU h x v with
  | some (r,ty,s,nv,cs)=>if o+τ.size<=cs.length∧0<τ.size then vr τ e h x r ty s nv cs o d else none
  | none=>none
 | _=>none
section
variable {P:Program} {T:Nat->Option Ty} {N:Nat} {M:Nat->Prop} {L:ik} {w0:World} {blk:Nat->Option (Nat×Nat)} {V:Nat->Nat->Prop} {t:Nat->D} {h:Nat->Option Row} {a:Act} {w:World} {e:Nat} {o:Oper} {Γ:Env}
def ij (N:Nat) (M:Nat->Prop) (L:ik) (w0:World) (V:Nat->Nat->Prop) (t:Nat->D) (h:Nat->Option Row) (a:Act) (e:Nat) (dst:Option Nat) (E:bt) (v:Value) (w':World):Prop :=
 ∃blk',Inv N M L w0 blk' (fun x n=>V x n∨(dst=some x∧n=e)) t (EH (aH h E.hw)) a w' ∧
  RT w' (Own M (EH (aH h E.hw)) blk') (EH (aH h E.hw)) blk' (fun x n=>V x n∨(dst=some x∧n=e)) E.val v
def VNr (V:Nat->Nat->Prop) (h:Nat->Option Row):Prop:=∀x r ty s nv cs,h x=some r->r.mp=true->r.cells=[.nr ty s nv cs]->x<PK->∀o,V (NK x o) nv
theorem W8 (hT:gm P T) (hI:Inv N M L w0 blk V t (EH h) a w) (hVn:VNr V h) {ty:Nat} {p:Operand} {τ:Ty} {E:bt} (ho:o.op=.load ty p) (hτ:T ty=some τ) (hE:nK τ h (ev t p)=some E):dz P o a w (ij N M L w0 V t h a e o.dst E):=by
 have hp:=hI.ev p
 generalize ev t p=q at *
 unfold nK at hE
 split at hE<;>try (cases hE;done)
 rename_i x v c
 split at hE<;>try (cases hE;done)
 rename_i r ty' s nv cs hl
 obtain⟨hx,hv,hz,hm,hp1,hc⟩:=gg hl
 have hEx:=eR hx hm hc hp1
 obtain⟨g,hg,hpv⟩:=hp.2 _ hEx hv
 rw[ahX]at hE
 unfold Dn at hE
 split at hE
 ·rename_i n xs hn
  split at hE<;>try (cases hE;done)
  rename_i hcond
  obtain⟨c1,c2⟩:=hcond
  simp only[afE]at hE
  subst hE
  obtain⟨u,h1,h2⟩:=hI.DL hx hm hc hp1 hg hn
  have hrun:=iZ (hT ty τ hτ) w g.1 (g.2+c) [u] (by simpa using c1.symm) (fun j v hj=>by
   cases j with
   | zero=>simp only[List.getElem?_cons_zero,afE]at hj;subst hj;simpa using h1
   | succ j=>simp at hj) (fun _=>rfl)
  rw[c2]at hrun
  refine aD (v:=u) (w':=w) ?_ ?_
  ·simp[execOp,ho,Instr.loadAt,Instr.sureAddr,hpv,hrun]
  ·refine aV.de (h:=EH h) hI ⟨hVn x r ty' s nv cs hx hm hc hp1 c,fun r' k1 k2 =>?_⟩
   rcases h2 with⟨g',c',N',t',q1,rfl,q3,q4,q5,q6⟩|⟨q1,rfl,q3⟩
   ·exact .inl ⟨g',g'.2,c',N',t',q1,rfl,fun _=>⟨rfl,q3⟩,q4,q5,q6⟩
   ·exact .inr ⟨q1,rfl,q3⟩
 ·rename_i d0 hnn hd0
  split at hE<;>try (cases hE;done)
  rename_i hcond
  obtain⟨c1,c2⟩:=hcond
  split at hE<;>try (cases hE;done)
  rename_i d hd
  simp only[afE]at hE
  subst hE
  have hat:At w (Own M (EH h) blk) g.1 (g.2+c) ((cs.drop c).take τ.size):=by
   intro j d1 hj
   have hdc:=afG.1 c2 d1 (afX hj)
   have hj':cs[c+j]? = some d1:=by
    rw[afL]at hj
    split at hj
    ·rwa [afM]at hj
    ·cases hj
   obtain⟨arr,k1,k2,k3⟩:=hI.Aq hx hm hc hp1 hg
   have hlt:=(afY.1 hj').1
   refine⟨(eu hdc).1,_,?_,k3 _ _ hj' hdc⟩
   rw[afQ]
   exact aK k1 (by omega)
  exact oE hT hI ho hτ hpv hat (by simp;omega) hd
 ·cases hE
theorem Cw (hT:gm P T) (hI:Inv N M L w0 blk V t (EH h) a w) {ty y c ty' s nv:Nat} {p x:Operand} {τ:Ty} {r:Row} {cs cs':List D} {us:List Value} {g:Nat×Nat} (ho:o.op=.store ty p x) (hτ:T ty=some τ)
  (hx:h y=some r) (hm:r.mp=true) (hc:r.cells=[.nr ty' s nv cs]) (hz:r.fz=false) (hp1:y<PK) (hg:blk y=some g) (hpv:a.eval p=.pointer (some ⟨g.1,g.2+c,none⟩)) (hus:(a.eval x).cells.toList=us) (hul:us.length=τ.size) (hle:c+τ.size<=cs.length) (h1:∀u∈us,u.oneCell'=true)
  (hlen:cs'.length=cs.length) (hnx:∀(j:Nat) n' xs',cs'[j]? = some (.nx n' xs')->∃n xs k,cs[j]? = some (.nx n xs)∧xs'=xs.take k) (hout:∀j,(j<c∨c+τ.size<=j)->cs'[j]? = cs[j]?)
  (hin:∀(j:Nat) d,j<τ.size->cs'[c+j]? = some d->(er d=true->RP w (Own M (EH h) blk) d (us.getD j undef))∧∀n' xs',d=.nx n' xs'->FV w blk (NK y (c+j)) s n' (us.getD j undef)) :
  dz P o a w (ij N M L w0 V t h a e o.dst ⟨.und,[(y,some ⟨r.v,r.ty,[.nr ty' s nv cs'],false,r.lst,true⟩)]⟩):=by
 obtain⟨arr,k1,k2,k3⟩:=hI.Aq hx hm hc hp1 hg
 have hrun:=run_storeCells_at P g.1 (g.2+c) r.ty us 0 arr w k1 (by omega) h1
 rw[af4]at hrun
 have hsz:(arr.toList.take (g.2+c)++us++arr.toList.drop (g.2+c+us.length)).toArray.size=arr.size:=by simp;omega
 have hget:∀j,j<cs.length->(arr.toList.take (g.2+c)++us++arr.toList.drop (g.2+c+us.length)).toArray.getD (g.2+j) undef=if j<c then arr.getD (g.2+j) undef else if j<c+us.length then us.getD (j-c) undef else arr.getD (g.2+j) undef:=by
  intro j hj
  rw[o0 arr us (g.2+c) (g.2+j) (by omega)]
  by_cases hjc:j<c
  ·rw[if_pos (by omega),if_pos hjc]
  ·rw[if_neg (by omega),if_neg hjc]
   by_cases hju:j<c+us.length
   ·rw[if_pos (by omega),if_pos hju]
    congr 1
    omega
   ·rw[if_neg (by omega),if_neg hju]
 generalize hnv:(arr.toList.take (g.2+c)++us++arr.toList.drop (g.2+c+us.length)).toArray=arr' at hrun hsz hget
 have hnew:(w.setRow g.1 arr').heap[g.1]? = some (.cells arr' r.ty (0,0)):=setRow_heap w g.1 arr arr' r.ty (0,0) k1
 have hhs:(w.setRow g.1 arr').heap.size=w.heap.size:=by simp[World.setRow]
 have hheap:∀b,b≠g.1->(w.setRow g.1 arr').heap[b]? = w.heap[b]?:=by
  intro b hb
  simp only[World.setRow,afF]
  rw[if_neg (Ne.symm hb)]
 have hown:Own M (EH h) blk g.1 := .inr ⟨y,_,g,eR hx hm hc hp1,hz,hg,rfl⟩
 have hml:=QQ hx hm hc hz hp1 hlen hnx
 have hkeep:∀ {d:D} {u:Value},RP w (Own M (EH h) blk) d u->RP (w.setRow g.1 arr') (Own M (EH (bz h y (some ⟨r.v,r.ty,[.nr ty' s nv (tj cs cs')],false,r.lst,true⟩))) blk) d u:=fun hr=>hr.keep fun b q1 q2=>⟨by rw[hhs];exact q1,za hml q2,hheap b (fun e=>q2 (e ▸ hown))⟩
 have hS:=hI.zh (cs':=cs') (w':=w.setRow g.1 arr') hx hm hc hz hp1 hlen rfl rfl rfl (by rw[hhs];exact afv _) (fun b _ hb=>hheap b (hb g hg)) hnx (fun g' hg'=>by
  rw[hg]at hg'
  cases hg'
  refine⟨by simp[World.shape?,hnew,k1,hsz],arr',hnew,by omega,fun j d hj =>?_⟩
  have hjl:j<cs.length:=by
   have:=(afY.1 hj).1
   omega
  rw[hget j hjl]
  by_cases hjin:c<=j∧j<c+τ.size
  ·rw[if_neg (by omega),if_pos (by omega)]
   obtain⟨i,rfl⟩:∃i,j=c+i:=⟨j-c,by omega⟩
   rw[agT]
   obtain⟨q1,q2⟩:=hin i d (by omega) hj
   exact⟨fun hd=>hkeep (q1 hd),q2⟩
  ·have hov:(if j<c then arr.getD (g.2+j) undef else if j<c+us.length then us.getD (j-c) undef else arr.getD (g.2+j) undef)=arr.getD (g.2+j) undef:=by
    split
    ·rfl
    ·rw[if_neg (by omega)]
   rw[hov]
   rw[hout j (by omega)]at hj
   refine⟨fun hd=>hkeep (k3 j d hj hd),fun n' xs' he =>?_⟩
   subst he
   obtain⟨u,q1,q2⟩:=hI.DL hx hm hc hp1 hg hj
   rw[aK k1 (by omega)]at q1
   cases q1
   exact q2)
 refine .inr (.inl ⟨w.setRow g.1 arr',?_,blk,?_,trivial⟩)
 ·have hcs:(a.eval x).cells.size=τ.size:=by rw[<- hul,<- hus];simp
  have hrun':(storeCells ⟨g.1,g.2+c,none⟩ (a.eval x).cells.toList 0).run P w=.ok () (w.setRow g.1 arr'):=by rw[hus];exact hrun
  simp[execOp,ho,Instr.storeAt,Instr.sureAddr,hpv,storeVar,run_sizeOf (hT ty τ hτ),hcs,hrun']
 ·exact hS.weaken fun _ _ h =>.inl h
theorem yo {g:Nat×Nat} {arr arr':Array Value} {ty:Nat} (k1:w.heap[g.1]? = some (.cells arr ty (0,0))):(w.setRow g.1 arr').heap[g.1]? = some (.cells arr' ty (0,0))∧(w.setRow g.1 arr').heap.size=w.heap.size∧∀b,b≠g.1->(w.setRow g.1 arr').heap[b]? = w.heap[b]?:=by
 refine⟨setRow_heap w g.1 arr arr' ty (0,0) k1,by simp[World.setRow],fun b hb =>?_⟩
 simp only[World.setRow,afF]
 rw[if_neg (Ne.symm hb)]
theorem Inv.ae0 (hI:Inv N M L w0 blk V t (EH h) a w) {y c ty' s nv:Nat} {r:Row} {cs:List D} (hx:h y=some r) (hm:r.mp=true) (hc:r.cells=[.nr ty' s nv cs]) (hz:r.fz=false) (hp1:y<PK) (hle:c<cs.length) :
  Inv N M L w0 blk V t (EH (bz h y (some ⟨r.v,r.ty,[.nr ty' s nv (putCells cs c [.und])],false,r.lst,true⟩))) a w:=by
 have hcell:∀(j:Nat) d,(putCells cs c [.und])[j]? = some d->d=.und∨cs[j]? = some d:=by
  intro j d hj
  by_cases hjc:j=c
  ·subst hjc
   rw[eP hle]at hj
   cases hj
   exact .inl rfl
  ·rw[fP hle hjc]at hj
   exact .inr hj
 have hnx:∀(j:Nat) n' xs',(putCells cs c [.und])[j]? = some (.nx n' xs')->∃n xs k,cs[j]? = some (.nx n xs)∧xs'=xs.take k:=by
  intro j n' xs' hj
  rcases hcell j _ hj with h|h
  ·cases h
  ·exact⟨n',xs',xs'.length,h,by simp⟩
 refine hI.zh hx hm hc hz hp1 (iD hle) rfl rfl rfl (afv _) (fun _ _ _=>rfl) hnx (fun g hg =>?_)
 obtain⟨arr,k1,k2,k3⟩:=hI.Aq hx hm hc hp1 hg
 refine⟨rfl,arr,k1,k2,fun j d hj=>⟨fun hd =>?_,fun n' xs' he =>?_⟩⟩
 ·rcases hcell j d hj with h|h
  ·subst h;cases hd
  ·exact (k3 j d h hd).keep fun b q1 q2=>⟨q1,za (QQ hx hm hc hz hp1 (iD hle) hnx) q2,rfl⟩
 ·subst he
  rcases hcell j _ hj with h|h
  ·cases h
  ·obtain⟨u,q1,q2⟩:=hI.DL hx hm hc hp1 hg h
   have hlt:=(afY.1 h).1
   rw[aK k1 (by omega)]at q1
   cases q1
   exact q2
theorem LW (hT:gm P T) (hI:Inv N M L w0 blk V t (EH h) a w) {ty y c ty' s nv nv' y1 n:Nat} {p x:Operand} {τ:Ty} {r q:Row} {cs:List D} {u':Value} {g:Nat×Nat} (ho:o.op=.store ty p x) (hτ:T ty=some τ) (c1:τ.size=1)
  (hx:h y=some r) (hm:r.mp=true) (hc:r.cells=[.nr ty' s nv cs]) (hz:r.fz=false) (hp1:y<PK) (hg:blk y=some g) (hpv:a.eval p=.pointer (some ⟨g.1,g.2+c,none⟩)) (hle:c<cs.length)
  (hy1:h y1=some q) (hyp:y1<PK) (hqf:q.fz=false) (hql:q.lst=true) (hqm:q.mp=false) (hqt:q.ty=ty') (hu:(a.eval x).cells = #[u']) (hone:u'.oneCell'=true) (hrel:FV w blk y1 s n u') (hV:∀o,¬V (NK y o) nv') :
  dz P o a w (ij N M L w0 V t h a e o.dst ⟨.und,[(y1,none),(y,some ⟨r.v,r.ty,[.nr ty' s nv' (putCells cs c [.nx n q.cells])],false,r.lst,true⟩)]⟩):=by
 have hpk:=bZ
 have hbig:=hI.big
 have hyy:y1≠y:=by
  rintro rfl
  rw[hy1]at hx
  cases hx
  rw[hqm]at hm
  cases hm
 have hK:∀o,NK y o≠y∧NK y o≠y1∧2*PK<=NK y o:=fun o=>by have:=dX y o;omega
 obtain⟨arr,k1,k2,k3⟩:=hI.Aq hx hm hc hp1 hg
 have hrun:=run_storeCells_at P g.1 (g.2+c) r.ty [u'] 0 arr w k1 (by simp;omega) (fun v hv=>by
  simp only[afS]at hv
  subst hv
  exact hone)
 rw[af4]at hrun
 have hsz:(arr.toList.take (g.2+c)++[u']++arr.toList.drop (g.2+c+[u'].length)).toArray.size=arr.size:=by simp;omega
 have hget:∀j,j<cs.length->(arr.toList.take (g.2+c)++[u']++arr.toList.drop (g.2+c+[u'].length)).toArray.getD (g.2+j) undef=if j=c then u' else arr.getD (g.2+j) undef:=by
  intro j hj
  rw[o0 arr [u'] (g.2+c) (g.2+j) (by simp;omega)]
  by_cases hjc:j=c
  ·subst hjc
   rw[if_neg (by omega),if_pos (by simp),if_pos rfl]
   simp
  ·rw[if_neg hjc]
   by_cases hlt:j<c
   ·rw[if_pos (by omega)]
   ·rw[if_neg (by omega),if_neg (by simp;omega)]
 generalize hnv:(arr.toList.take (g.2+c)++[u']++arr.toList.drop (g.2+c+[u'].length)).toArray=arr' at hrun hsz hget
 obtain⟨hnew,hhs,hheap⟩:=yo (g:=g) (arr':=arr') k1
 have hA:=hI.ae0 hx hm hc hz hp1 hle
 have hB:=hA.adA (fun k=>∃o,k=NK y o) nv' (fun k hk=>by
  obtain⟨o,rfl⟩:=hk
  exact⟨by have:=hK o;omega,by have:=hK o;omega,hV o⟩) (h':=EH (bz h y (some ⟨r.v,r.ty,[.nr ty' s nv' (putCells cs c [.und])],false,r.lst,true⟩))) (fun k hk=>by
  obtain⟨o,rfl⟩:=hk
  rw[dP (aq _ _ _) rfl rfl hp1,dP (aq _ _ _) rfl rfl hp1]
  cases (putCells cs c [D.und])[o]? with
  | none=>rfl
  | some d=>cases d<;>rfl) (fun k hk=>by
  by_cases hky:rt k=y
  ·rcases mz hky with rfl|h
   ·rw[eR (aq _ _ _) rfl rfl hp1,eR (aq _ _ _) rfl rfl hp1]
   ·exact absurd h hk
  ·exact dA (by rw[au _ _ hky,au _ _ hky]))
 generalize hh2:bz h y (some (⟨r.v,r.ty,[.nr ty' s nv' (putCells cs c [.und])],false,r.lst,true⟩:Row))=h2 at hB
 have h2y:h2 y=some ⟨r.v,r.ty,[.nr ty' s nv' (putCells cs c [.und])],false,r.lst,true⟩:=by rw[<- hh2,aq]
 have h2ne:∀z,z≠y->h2 z=h z:=fun z hz=>by rw[<- hh2,au _ _ hz]
 have hq2:EH h2 y1=some q:=by
  rw[pE (by omega),h2ne _ hyy,hy1]
  simp only[Option.map_some,Bl,hqm]
  rfl
 have hrow1:=(hB.rows y1 q hq2).2
 have hown1:∀b,Own M (forget (EH h2) (some y1)) blk b->Own M (EH h2) blk b:=fun b hb=>by
  rcases hb with hb|⟨z,r',g',hz,hz2,hz3,hz4⟩
  ·exact .inl hb
  ·simp only[forget]at hz
   by_cases hzx:z=y1
   ·subst hzx;rw[aq]at hz;cases hz
   ·rw[au _ _ hzx]at hz
    exact .inr ⟨z,r',g',hz,hz2,hz3,hz4⟩
 have hC:=hB.Wl (w':=w) (h1:=forget (EH h2) (some y1)) (old:=some y1) (d:=NK y c) (r0:=⟨nv',ty',q.cells,false,true,false⟩) (go:=blk y1) rfl rfl rfl (afv _) (fun _ _ _=>rfl) (fun y' hy'=>by cases hy';exact⟨q,hq2,hqf⟩) rfl (by have:=hK c;omega) (by have:=hK c;omega) (hV c)
  (fun y' r' j s' n' hy' hm' hc'=>by
   simp only[forget]at hy'
   by_cases hyy':y'=y1
   ·subst hyy';rw[aq]at hy';cases hy'
   rw[au _ _ hyy']at hy'
   have hrow:=(hB.rows y' r' hy').2
   cases hb:blk y' with
   | none =>
    rw[hb]at hrow
    rw[show r'.cells=[] from hrow]at hc'
    cases hc'
   | some g' =>
    obtain⟨⟨q1,q2⟩,_⟩:=hB.pha y' r' g' hy' hm' hb j _ s' n' hc'
    rcases q2 with q2|q2
    ·have:=hK c;omega
    ·obtain⟨rfl,rfl⟩:=qu hp1 q1 q2
     rw[eR h2y rfl rfl hp1]at hy'
     simp only[afE]at hy'
     subst hy'
     simp only[ahZ,eP hle,Option.map_some,afE]at hc'
     cases hc') (by
  cases hb:blk y1 with
  | none=>rw[hb]at hrow1;exact hrow1
  | some g' =>
   obtain⟨arr2,m1,m2,m3⟩:=hB.Dt hq2 hb hqm
   refine⟨.inr ⟨y1,g',rfl,hb,rfl⟩,arr2,by rw[<- hqt];exact m1,m2,fun j d hj=>⟨(m3 j d hj).1,(m3 j d hj).2.keep fun b q1 q2=>⟨q1,?_,rfl⟩⟩⟩
   rintro (hn|rfl)
   ·exact q2 (hown1 b hn)
   ·exact q2 (.inr ⟨y1,q,g',hq2,hqf,hb,rfl⟩)) rfl
 generalize hhC:bz (forget (EH h2) (some y1)) (NK y c) (some (⟨nv',ty',q.cells,false,true,false⟩:Row))=hc3 at hC
 have hxC:hc3 y=some ⟨r.v,r.ty,(putCells cs c [.und]).mapIdx (ow y s),false,r.lst,true⟩:=by
  rw[<- hhC,au _ _ (Ne.symm (hK c).1)]
  simp only[forget]
  rw[au _ _ (Ne.symm hyy)]
  exact eR h2y rfl rfl hp1
 have hgC:bz blk (NK y c) (blk y1) y=some g:=by rw[au _ _ (Ne.symm (hK c).1),hg]
 have hlen':(putCells cs c [D.nx n q.cells]).length=cs.length:=iD hle
 have hD:=hC.iH (r0:=⟨r.v,r.ty,(putCells cs c [.nx n q.cells]).mapIdx (ow y s),false,r.lst,true⟩) (w':=w.setRow g.1 arr') hxC rfl rfl rfl rfl rfl (by rw[hhs];exact afv _) (fun b _ hb=>hheap b (hb g hgC)) (by
  rw[hgC]
  refine⟨by simp[World.shape?,hnew,k1,hsz],?_⟩
  have hri:=hC.rowIs hxC hgC
  unfold du at hri ⊢
  simp only at hri ⊢
  rcases hri with⟨ks,vs,m1,_⟩|⟨m1,arr2,m2,m3,m4⟩
  ·exfalso
   have:=congrArg List.length m1
   simp only[ahY,iD hle,List.length_singleton]at this
   have h0:c=0:=by omega
   subst h0
   have m1':=congrArg (fun l:List D=>l[0]?) m1
   simp only[ahZ,eP hle,Option.map_some,List.getElem?_cons_zero,afE]at m1'
   cases m1'
  ·rw[k1]at m2
   simp only[afE,Obj.cells.injEq]at m2
   obtain⟨rfl,-⟩:=m2
   refine .inr ⟨fun d hd =>?_,arr',hnew,by simp only[ahY,hlen'];omega,fun j d hj =>?_⟩
   ·obtain⟨j,hj⟩:=afR hd
    simp only[ahZ,aft]at hj
    obtain⟨d0,hd0,rfl⟩:=hj
    exact jK _ _ _ _
   ·simp only[ahZ,aft]at hj
    obtain⟨d0,hd0,rfl⟩:=hj
    have hjl:j<cs.length:=by
     have:=(afY.1 hd0).1
     omega
    rw[hget j hjl]
    by_cases hjc:j=c
    ·subst hjc
     rw[eP hle]at hd0
     cases hd0
     trivial
    ·rw[if_neg hjc]
     rw[fP hle hjc]at hd0
     have:=m4 j (ow y s j d0) (by rw[ahZ,fP hle hjc,hd0];rfl)
     exact this.keep fun b q1 q2=>⟨by rw[hhs];exact q1,q2,hheap b (fun e=>q2 (.inr ⟨y,_,g,hxC,rfl,hgC,e.symm⟩))⟩) (fun h=>by cases h) (fun _ g' hg' j x' s' n' hj=>by
  rw[hgC]at hg'
  cases hg'
  simp only[ahZ,aft]at hj
  obtain⟨d0,hd0,he⟩:=hj
  have hjl:j<cs.length:=by
   have:=(afY.1 hd0).1
   omega
  by_cases hjc:j=c
  ·subst hjc
   rw[eP hle]at hd0
   simp only[afE]at hd0
   subst hd0
   simp only[ow,D.ph.injEq]at he
   obtain⟨rfl,rfl,rfl⟩:=he
   refine⟨⟨hp1,.inr rfl⟩,u',by rw[aK hnew (by omega),hget j hjl,if_pos rfl],fun r' _ =>?_⟩
   rw[aq]
   exact hrel
  ·rw[fP hle hjc]at hd0
   obtain⟨q1,u,q2,q3⟩:=hC.pha y _ g hxC rfl hgC j x' s' n' (by rw[ahZ,fP hle hjc,hd0,<- he];rfl)
   refine⟨q1,u,?_,q3⟩
   rw[aK k1 (by omega)]at q2
   rw[aK hnew (by omega),hget j hjl,if_neg hjc,q2])
 have hfin:bz hc3 y (some (⟨r.v,r.ty,(putCells cs c [.nx n q.cells]).mapIdx (ow y s),false,r.lst,true⟩:Row))=EH (aH h [(y1,none),(y,some ⟨r.v,r.ty,[.nr ty' s nv' (putCells cs c [.nx n q.cells])],false,r.lst,true⟩)]):=by
  simp only[aH]
  funext k
  by_cases hky:rt k=y
  ·rcases mz hky with rfl|⟨o',rfl⟩
   ·rw[aq,eR (aq _ _ _) rfl rfl hp1]
   ·rw[au _ _ (hK o').1,dP (aq _ _ _) rfl rfl hp1,<- hhC]
    by_cases hoc:o'=c
    ·subst hoc
     rw[aq,eP hle]
     rfl
    ·rw[au _ _ (fun e=>hoc (qu hp1 hp1 e).2)]
     simp only[forget]
     rw[au _ _ (hK o').2.1,dP h2y rfl rfl hp1,fP hle hoc,fP hle hoc]
  ·rw[au _ _ (fun e=>hky (by rw[e,fX (by omega)])),<- hhC,au _ _ (fun e=>hky (by rw[e,rX hp1]))]
   simp only[forget]
   by_cases hk1:rt k=y1
   ·rcases mz hk1 with rfl|⟨o',rfl⟩
    ·rw[aq,pE (by omega),au _ _ hyy,aq]
     rfl
    ·rw[au _ _ (by have:=dX y1 o';omega),pD hyp,pD hyp,h2ne _ hyy,hy1,au _ _ hyy,aq]
     simp only[Option.bind_some,Option.bind_none,oV,hqm]
     rfl
   ·rw[au _ _ (fun e=>hk1 (by rw[e,fX (by omega)]))]
    exact dA (by rw[h2ne _ hky,au _ _ hky,au _ _ hk1])
 refine .inr (.inl ⟨w.setRow g.1 arr',?_,bz blk (NK y c) (blk y1),?_,trivial⟩)
 ·simp[execOp,ho,Instr.storeAt,Instr.sureAddr,hpv,storeVar,run_sizeOf (hT ty τ hτ),c1,hu,hrun]
 ·show Inv _ _ _ _ _ _ _ (EH (aH h _)) _ _
  rw[<- hfin]
  exact hD.weaken fun _ _ h =>.inl h
def Z2 (V:Nat->Nat->Prop) (h:Nat->Option Row) (e:Nat):Prop:=∀x r ty s nv cs nv',h x=some r->r.mp=true->r.cells=[.nr ty s nv cs]->x<PK->bump nv e=some nv'->∀o,¬V (NK x o) nv'
theorem ack {M':Nat->Prop} {d:D} {c':List D} {u:Value} (hc:plV d=some c') (hd:c'.all er=true) (hr:RT w M' h blk V d u):u.cells.toList.length=c'.length∧∀(j:Nat) x,c'[j]? = some x->er x=true∧RP w M' (canon x) (u.cells.toList.getD j undef):=by
 have hdx:∀x∈c',er x=true:=afG.1 hd
 have one:∀(d0:D),c'=[d0]->RP w M' d0 u->u.cells.toList.length=c'.length∧∀(j:Nat) x,c'[j]? = some x->er x=true∧RP w M' (canon x) (u.cells.toList.getD j undef):=by
  intro d0 he hr0
  subst he
  have hdc:=hdx d0 (by simp)
  have hu:=hr0.cells (eu hdc).1
  rw[hu]
  refine⟨rfl,fun j x hj =>?_⟩
  cases j with
  | zero=>simp only[List.getElem?_cons_zero,afE]at hj;subst hj;exact⟨hdc,hr0.canon⟩
  | succ j=>simp at hj
 cases d with
 | agg xs =>
  simp only[plV,afE]at hc
  subst hc
  have hr':RP w M' (.agg xs) u:=hr
  cases hr' with
  | agg xs us h1 h2 h3 =>
   have hcs:(Value.agg us.toArray).cells.toList=us:=by simp[Value.cells]
   rw[hcs]
   exact⟨h1,fun j x hj=>⟨hdx x (afX hj),(h2 j x hj).canon⟩⟩
 | int k n=>simp only[plV,afE]at hc;exact one _ hc.symm hr
 | bool b=>simp only[plV,afE]at hc;exact one _ hc.symm hr
 | str s=>simp only[plV,afE]at hc;exact one _ hc.symm hr
 | sl a b n xs=>simp only[plV,afE]at hc;exact one _ hc.symm hr
 | _=>cases hc
theorem Xd (hT:gm P T) (hI:Inv N M L w0 blk V t (EH h) a w) (hVn:Z2 V h e) {ty:Nat} {p x:Operand} {τ:Ty} {E:bt} (ho:o.op=.store ty p x) (hτ:T ty=some τ) (hE:lp τ e h (ev t p) (ev t x)=some E):dz P o a w (ij N M L w0 V t h a e o.dst E):=by
 have hp:=hI.ev p
 have hq:=hI.ev x
 generalize ev t p=pd at *
 generalize ev t x=d at *
 unfold lp at hE
 split at hE<;>try (cases hE;done)
 rename_i y v c
 split at hE<;>try (cases hE;done)
 rename_i r ty' s nv cs hl
 obtain⟨hx,hv,hz,hm,hp1,hc⟩:=gg hl
 have hEx:=eR hx hm hc hp1
 obtain⟨g,hg,hpv⟩:=hp.2 _ hEx hv
 split at hE<;>try (cases hE;done)
 rename_i hcond
 obtain⟨hle,hpos⟩:=hcond
 have plain:zl τ y r ty' s nv cs c (plV d)=some E->dz P o a w (ij N M L w0 V t h a e o.dst E):=by
  intro hE
  unfold zl at hE
  split at hE<;>try (cases hE;done)
  rename_i c' hpl
  split at hE<;>try (cases hE;done)
  rename_i hcond
  obtain⟨d1,d2⟩:=hcond
  simp only[afE]at hE
  subst hE
  obtain⟨u1,u2⟩:=ack hpl d2 hq
  have hml:(c'.map canon).length=τ.size:=by rw[afZ];exact d1
  have hle':c+(c'.map canon).length<=cs.length:=by omega
  refine Cw hT hI ho hτ hx hm hc hz hp1 hg hpv rfl (u1.trans d1) hle (fun u hu =>?_) (gU hle') (fun j n' xs' hj =>?_) (fun j hj =>?_) (fun j d0 hj hd0 =>?_)
  ·obtain⟨j,hj⟩:=afR hu
   have hjl:=(afY.1 hj).1
   obtain⟨q1,q2⟩:=u2 j _ (afI (by omega))
   have e1:(a.eval x).cells.toList.getD j undef=u:=by simp only[af8,hj,Option.getD_some]
   rw[e1]at q2
   exact q2.oW (by rw[kQ];exact (eu q1).1)
  ·rw[kh hle']at hj
   split at hj
   ·exact⟨n',xs',xs'.length,hj,by simp⟩
   ·split at hj
    ·rw[afs,aft]at hj
     obtain⟨x0,h1,h2⟩:=hj
     have:=(u2 _ x0 h1).1
     cases x0<;>first|(cases h2;done)|(cases this;done)
    ·exact⟨n',xs',xs'.length,hj,by simp⟩
  ·rw[kh hle']
   by_cases h1:j<c
   ·rw[if_pos h1]
   ·rw[if_neg h1,if_neg (by omega)]
  ·rw[kh hle',if_neg (by omega),if_pos (by omega),agT,afs,aft]at hd0
   obtain⟨x0,h1,rfl⟩:=hd0
   obtain⟨q1,q2⟩:=u2 j x0 h1
   refine⟨fun _=>q2,fun n' xs' he =>?_⟩
   cases x0<;>first|(cases he;done)|(cases q1;done)
 unfold vr at hE
 split at hE
 ·rename_i z vz s' oz n
  split at hE<;>try (cases hE;done)
  rename_i hcond
  obtain⟨c1,rfl,rfl⟩:=hcond
  have hsl:∀ {k:Nat} {q:Row},EH h z=some q->q.v=vz->FV w blk z s' n (a.eval x):=by
   intro k q hz1 hz2
   rcases hq.2 q hz1 hz2 with⟨g',o',c',N',t',k0,k1,k2,k3,k4,k5⟩|⟨k0,k1,A,k2⟩
   ·obtain⟨k6,k7⟩:=k2 (.inr rfl)
    rw[af4]at k6
    subst k6
    exact .inl ⟨g',c',N',t',k0,k1,k7,k3,k4,k5⟩
   ·exact .inr ⟨k0,k1,A,k2⟩
  have hsc:∀ {B:FV w blk z s' n (a.eval x)},(a.eval x).cells = #[a.eval x]∧(a.eval x).oneCell'=true:=by
   intro B
   rcases B with⟨g',c',N',t',k0,k1,_⟩|⟨k0,k1,A,k2⟩
   ·rw[k1];exact⟨rfl,rfl⟩
   ·rw[k2];exact⟨rfl,rfl⟩
  split at hE
  ·rename_i hzk
   subst hzk
   split at hE<;>try (cases hE;done)
   rename_i hvz
   subst hvz
   rw[ahX]at hE
   unfold zj at hE
   split at hE<;>try (cases hE;done)
   rename_i n0 xs hn
   split at hE<;>try (cases hE;done)
   rename_i hfit
   simp only[afE]at hE
   subst hE
   have hNx:EH h (NK y c)=some ⟨vz,ty',xs,r.fz,true,false⟩:=by rw[dP hx hm hc hp1,hn];rfl
   have hH:=hsl (k:=0) hNx rfl
   obtain⟨hcl,hone⟩:=hsc (B:=hH)
   have hlt:=(afY.1 hn).1
   refine Cw hT hI ho hτ hx hm hc hz hp1 hg hpv (us:=[a.eval x]) (by rw[hcl]) (by simpa using c1.symm) hle (fun u hu=>by simp only[afS]at hu;subst hu;exact hone) (iD hlt) (fun j n' xs' hj =>?_) (fun j hj=>fP hlt (by omega)) (fun j d0 hj hd0 =>?_)
   ·by_cases hjc:j=c
    ·subst hjc
     rw[eP hlt]at hj
     simp only[afE,D.nx.injEq]at hj
     obtain⟨rfl,rfl⟩:=hj
     exact⟨n0,xs,_,hn,rfl⟩
    ·rw[fP hlt hjc]at hj
     exact⟨n',xs',xs'.length,hj,by simp⟩
   ·obtain rfl:j=0:=by omega
    rw[af4,eP hlt]at hd0
    simp only[afE]at hd0
    subst hd0
    refine⟨fun hd=>(by cases hd),fun n' xs' he =>?_⟩
    simp only[D.nx.injEq]at he
    obtain⟨rfl,rfl⟩:=he
    exact hH
  ·split at hE<;>try (cases hE;done)
   rename_i hzp
   split at hE<;>try (cases hE;done)
   rename_i q hlq
   split at hE<;>try (cases hE;done)
   rename_i hcq
   obtain⟨q1,q2,q3,q4⟩:=hcq
   obtain⟨hq1,hq2⟩:=bU hlq
   have hqm:=fW hlq
   unfold zk at hE
   split at hE<;>try (cases hE;done)
   rename_i nv' hb
   simp only[afE]at hE
   subst hE
   have hEq:EH h z=some q:=by
    rw[pE (by omega),hq1]
    simp only[Option.map_some,Bl,hqm]
    rfl
   have hH:=hsl (k:=0) hEq hq2
   obtain⟨hcl,hone⟩:=hsc (B:=hH)
   exact LW hT hI ho hτ c1 hx hm hc hz hp1 hg hpv (by omega) hq1 hzp q1 q2 hqm q3 hcl hone hH (hVn y r ty' s' nv cs nv' hx hm hc hp1 hb)
 ·exact plain hE
end
def Yd:Option D->Bool
 | some (.sl true true 0 [])=>true
 | _=>false
def kU (φ:Ty) (f:Nat):List D:=putCells ((φ.zero.map kW).map canon) f [.nx 0 []]
def p9 (T:Nat->Option Ty) (τ:Ty) (e d ty' s f:Nat) (l c:D):Option bt :=
 match τ.ds with
 | .slice el =>
  match T el,mf l,mf c with
  | some φ,some l,some c =>
   if l<=c∧c<=maxLen∧c*φ.bytes<=140737488355328∧0<φ.size∧(φ.zero.map kW).all er=true∧φ.zero.length=φ.size∧d<PK∧Yd ((φ.zero.map kW).drop f).head? = true then
    some ⟨.buf d e φ.size 0 l,[(d,some ⟨e,el,[.nr ty' s (4*e+2) (lA l (kU φ f))],false,true,true⟩)]⟩
   else none
  | _,_,_=>none
 | _=>none
def mkA (τ:Ty) (ty e d ty' s f:Nat):Option bt :=
 if 0<τ.size∧(τ.zero.map kW).all er=true∧τ.zero.length=τ.size∧d<PK∧Yd ((τ.zero.map kW).drop f).head? = true then
  some ⟨.ptr d e 0,[(d,some ⟨e,ty,[.nr ty' s (4*e+2) (kU τ f)],false,false,true⟩)]⟩
 else none
def fM (T:Nat->Option Ty) (Γ:Env) (e:Nat) (o:Oper) (vs:Operand->D):Option bt :=
 match o.op with
 | .makeSlice ty l c =>
  match o.dst with
  | some d =>
   match Γ.nst d with
   | some (ty',s,f)=>match T ty with|some τ=>p9 T τ e d ty' s f (vs l) (vs c)|none=>none
   | none=>none
  | none=>none
 | .alloc ty =>
  match o.dst with
  | some d =>
   match Γ.nst d with
   | some (ty',s,f)=>match T ty with|some τ=>mkA τ ty e d ty' s f|none=>none
   | none=>none
  | none=>none
 | _=>none
section
variable {P:Program} {T:Nat->Option Ty} {N:Nat} {M:Nat->Prop} {L:ik} {w0:World} {blk:Nat->Option (Nat×Nat)} {V:Nat->Nat->Prop} {t:Nat->D} {h:Nat->Option Row} {a:Act} {w:World} {e:Nat} {o:Oper} {Γ:Env}
theorem Inv.addEmpty (hI:Inv N M L w0 blk V t h a w) (S:Nat->Prop) (ty nv:Nat) (hS:∀k,S k->N<=k∧k≠0∧¬V k nv∧h k=none) {h':Nat->Option Row} {blk':Nat->Option (Nat×Nat)} (he:∀k,S k->h' k=some ⟨nv,ty,[],false,true,false⟩∧blk' k=none) (hne:∀k,¬S k->h' k=h k∧blk' k=blk k)
  (hpa:∀y r g,h y=some r->r.mp=true->blk y=some g->∀j x s n:Nat,r.cells[j]? = some (D.ph x s n)->S x->∃u,w.cell? ⟨g.1,g.2+j,none⟩=some u∧n=0∧∃A,u=.slice A 0 0):Inv N M L w0 blk' V t h' a w:=by
 have hf:∀x r',h' x=some r'->(S x∧r'=⟨nv,ty,[],false,true,false⟩∧blk' x=none)∨(¬S x∧h x=some r'∧blk' x=blk x):=by
  intro x r' hx
  by_cases hs:S x
  ·rw[(he x hs).1]at hx
   exact .inl ⟨hs,by simpa using hx.symm,(he x hs).2⟩
  ·rw[(hne x hs).1]at hx
   exact .inr ⟨hs,hx,(hne x hs).2⟩
 have ho:∀b,¬Own M h blk b->¬Own M h' blk' b:=by
  intro b hb hb'
  rcases hb' with hb'|⟨x,r',g,hx,hz,hg,e⟩
  ·exact hb (.inl hb')
  ·rcases hf x r' hx with⟨_,_,k3⟩|⟨_,k2,k3⟩
   ·rw[k3]at hg;cases hg
   ·exact hb (.inr ⟨x,r',g,k2,hz,k3 ▸ hg,e⟩)
 have hkp:FT w w (Own M h blk) (Own M h' blk') h h' blk blk' V V:=⟨fun b h1 h2=>⟨h1,ho b h2,rfl⟩,fun _ _ h=>h,fun x v hv r' h1 h2=>by
  rcases hf x r' h1 with⟨k1,rfl,_⟩|⟨_,k2,k3⟩
  ·simp only at h2
   subst h2
   exact absurd hv (hS x k1).2.2.1
  ·exact⟨⟨r',k2,h2⟩,k3,fun _ _=>rfl⟩⟩
 exact {
  tab:=hI.tab.keep fun b h1 h2=>⟨h1,ho b h2,rfl⟩
  below:=hI.below
  mlt:=hI.mlt
  lent:=hI.lent
  pin:=fun go hg=>⟨(hI.pin go hg).1,fun r' hr hv=>by
   rcases hf 0 r' hr with⟨k1,_⟩|⟨_,k2,k3⟩
   ·exact absurd rfl (hS 0 k1).2.1
   ·rw[k3];exact (hI.pin go hg).2 r' k2 hv⟩
  defers:=hI.defers
  tsz:=hI.tsz
  slots:=fun i=>(hI.slots i).mono hkp
  rows:=fun x r' hx=>by
   rcases hf x r' hx with⟨k1,rfl,k3⟩|⟨_,k2,k3⟩
   ·rw[k3]
    exact⟨fun hn=>by have:=(hS x k1).1;omega,rfl⟩
   ·obtain⟨h1,h2⟩:=hI.rows x r' k2
    rw[k3]
    refine⟨h1,?_⟩
    cases hb:blk x with
    | none=>rw[hb]at h2;exact h2
    | some g =>
     rw[hb]at h2
     exact⟨h2.1,h2.2.keep rfl rfl rfl rfl fun b q1 q2=>⟨q1,ho b q2,rfl⟩⟩
  inj:=fun x y r s g g' hx hy hg hg' e=>by
   rcases hf x r hx with⟨_,_,k3⟩|⟨_,k2,k3⟩
   ·rw[k3]at hg;cases hg
   rcases hf y s hy with⟨_,_,q3⟩|⟨_,q2,q3⟩
   ·rw[q3]at hg';cases hg'
   exact hI.inj x y r s g g' k2 q2 (k3 ▸ hg) (q3 ▸ hg') e
  big:=hI.big
  pha:=fun y r' g hy hm hg j x s n hc=>by
   rcases hf y r' hy with⟨_,rfl,k3⟩|⟨_,k2,k3⟩
   ·rw[k3]at hg;cases hg
   rw[k3]at hg
   obtain⟨h0,u,q1,q2⟩:=hI.pha y r' g k2 hm hg j x s n hc
   refine⟨h0,u,q1,?_⟩
   by_cases hs:S x
   ·obtain⟨u',p1,p2,p3⟩:=hpa y r' g k2 hm hg j x s n hc hs
    rw[q1]at p1
    cases p1
    exact fun r'' _ =>.inr ⟨(he x hs).2,p2,p3⟩
   ·exact fun r'' q3=>by
     rw[(hne x hs).2]
     exact q2 r'' ((hne x hs).1 ▸ q3)
  ali:=fun y r' g hy hz hls hg j c d' hj hd'=>by
   rcases hf y r' hy with⟨_,rfl,k3⟩|⟨_,k2,k3⟩
   ·rw[k3]at hg;cases hg
   rw[k3]at hg
   obtain⟨u,q1,q2⟩:=hI.ali y r' g k2 hz hls hg j c d' hj hd'
   exact⟨u,q1,q2.mono hkp⟩ }
theorem xi (d:Nat) (hd:d<PK):Bn (EH h) (EH (bz h d none)):=by
 intro k r' hk
 by_cases hkd:rt k=d
 ·rcases mz hkd with rfl|⟨o,rfl⟩
  ·rw[pE (by have:=bZ;omega),aq]at hk;cases hk
  ·rw[pD hd,aq]at hk;cases hk
 ·exact⟨r',by rw[<- hk];exact dA (au _ _ hkd).symm,.refl _⟩
theorem Tp {v:Value} (h:kW v=.sl true true 0 []):v=.slice none 0 0:=by
 unfold kW at h
 split at h<;>first|rfl|cases h
open Classical in
theorem Xb (hT:gm P T) (hI:Inv N M L w0 blk V t (EH h) a w) {ty d ty' s f:Nat} {l c:Operand} {τ:Ty} {E:bt} (ho:o.op=.makeSlice ty l c) (hd:o.dst=some d) (hV:gR N V d e) (hV':∀o,¬V (NK d o) (4*e+2)) (hτ:T ty=some τ)
  (hE:p9 T τ e d ty' s f (ev t l) (ev t c)=some E):dz P o a w (ij N M L w0 V t h a e o.dst E):=by
 have hpl:=hI.ev l
 have hpc:=hI.ev c
 have hbig:=hI.big
 have hpk:=bZ
 obtain⟨dd,hdd,hc⟩:=under hT hτ
 unfold p9 at hE
 split at hE<;>try (cases hE;done)
 rename_i el hds
 rw[hds]at hc
 have:=eY hc
 subst this
 split at hE<;>try (cases hE;done)
 rename_i φ n k hφ hn hk
 split at hE<;>try (cases hE;done)
 rename_i hcond
 obtain⟨c1,c2,c3,c4,c5,c6,hdp,c8⟩:=hcond
 simp only[afE]at hE
 subst hE
 obtain⟨q1,hl⟩:=uM hn hpl
 obtain⟨q2,hcv⟩:=uM hk hpc
 obtain⟨d',i,z,g1,g2,g3,g4,g5,g6,g7⟩:=(hT el φ hφ).get
 have hb:(i.bytes:Int)*(k:Int)<=281474976710656:=by
  have:((i.bytes*k:Nat):Int)<=281474976710656:=by
   rw[g5,agt];omega
  rwa [agu]at this
 have hk63:(k:Int)<=9223372036854775807:=by
  simp only[maxLen]at c2
  omega
 have hrun:=run_make (P:=P) w ty el i z hdd g3 g6 q1 q2 n k (by omega) (by omega) hb hk63
 simp only[Int.toNat_natCast]at hrun
 have hzl:(φ.zero.map kW).length=φ.size:=by rw[afZ,c6]
 have hf:f<φ.size:=by
  rw[ahX]at c8
  rcases agh f φ.size with hlt|hge
  ·exact hlt
  ·rw[ag7 (by omega)]at c8;cases c8
 have hzf:(φ.zero.map kW)[f]? = some (.sl true true 0 []):=by
  rw[ahX]at c8
  unfold Yd at c8
  split at c8
  ·assumption
  ·cases c8
 have hzn:(kU φ f).length=φ.size:=by
  unfold kU
  rw[iD (by simp;omega)]
  simp[c6]
 have hzat:∀(m:Nat) (x:D),(kU φ f)[m]? = some x->(m=f∧x=.nx 0 [])∨(m≠f∧∃y,(φ.zero.map kW)[m]? = some y∧x=canon y):=by
  intro m x hm
  unfold kU at hm
  by_cases hmf:m=f
  ·subst hmf
   rw[eP (by simp;omega)]at hm
   exact .inl ⟨rfl,by simpa using hm.symm⟩
  ·rw[fP (by simp;omega) hmf,afs,aft]at hm
   obtain⟨y,h1,h2⟩:=hm
   exact .inr ⟨hmf,y,h1,h2.symm⟩
 generalize hvs:madeCells z.cells (k*i.size)=vs at hrun
 have hsz:vs.size=k*φ.size:=by rw[<- hvs];simp[madeCells,g4]
 have hval:∀j,j<k*φ.size->vs.getD j undef=φ.zero.toArray.getD (j % φ.size) undef:=by
  intro j hj
  rw[<- hvs,g7,g4,<- c6]
  have:=tI φ.zero k j (by rw[c6];exact hj)
  simpa [madeCells,List.getD] using this
 have hat:∀(j:Nat) (x:D),(lA n (kU φ f))[j]? = some x->j<n*φ.size∧(kU φ f)[j % φ.size]? = some x:=by
  intro j x hj
  have:=Bz _ _ _ _ hj
  rwa [hzn]at this
 have hnk:n*φ.size<=k*φ.size:=agi _ c1
 have hdat:∀(M':Nat->Prop) (w':World) (j:Nat) (x:D),(lA n (kU φ f))[j]? = some x->er x=true->RP w' M' x (vs.getD j undef):=by
  intro M' w' j x hj hdx
  obtain⟨r1,r2⟩:=hat j x hj
  rw[hval j (by omega)]
  rcases hzat _ x r2 with⟨_,rfl⟩|⟨_,y,h1,rfl⟩
  ·cases hdx
  ·exact (ou (w:=w') (M:=M') φ.zero (afG.2 fun y hy=>(eu (afG.1 c5 y hy)).1) _ y h1).2.canon
 have hnil:∀(j:Nat) (n':Nat) (xs:List D),(lA n (kU φ f))[j]? = some (.nx n' xs)->n'=0∧xs=[]∧vs.getD j undef=.slice none 0 0:=by
  intro j n' xs hj
  obtain⟨r1,r2⟩:=hat j _ hj
  rcases hzat _ _ r2 with⟨hm,he⟩|⟨_,y,h1,he⟩
  ·simp only[D.nx.injEq]at he
   refine⟨he.1,he.2,?_⟩
   rw[hval j (by omega),hm]
   rw[afs,aft]at hzf
   obtain⟨v,v1,v2⟩:=hzf
   simp only[afA,List.getElem?_toArray,v1,Option.getD_some]
   exact Tp v2
  ·have:=afG.1 c5 y (afX h1)
   cases y<;>first|(cases he;done)|(cases this;done)
 generalize hcs:lA n (kU φ f)=cs at hat hdat hnil
 have hcl:cs.length=n*φ.size:=by rw[<- hcs,oU,hzn]
 have hA:=hI.le (xi (h:=h) d hdp)
 have hold:∀b,b<w.heap.size->(w.alloc (.cells vs el)).heap[b]? = w.heap[b]?:=fun b hb=>Below.heap_alloc w _ b hb
 have hbw:=(Below.refl w.heap.size w).alloc (afv _) (.cells vs el)
 have hnew:=heap_alloc_new w (.cells vs el)
 have hEn:∀o,EH (bz h d none) (NK d o)=none:=fun o=>by rw[pD hdp,aq];rfl
 have hKd:∀o,NK d o≠d:=fun o=>by have:=dX d o;omega
 have hB:=hA.BS (w':=w.alloc (.cells vs el)) (h1:=EH (bz h d none)) (old:=none) (d:=d) (e:=e) (r0:=⟨e,el,cs.mapIdx (ow d s),false,true,true⟩) (go:=some (w.heap.size,0)) hbw.os hbw.tape hbw.output hbw.size (fun k hk _=>hold k hk) (fun y hy=>by cases hy) rfl hV
  ⟨.inl (afv _),.inr ⟨fun x hx=>by
   obtain⟨j,hj⟩:=afR hx
   simp only[ahZ,aft]at hj
   obtain⟨d0,hd0,rfl⟩:=hj
   exact jK _ _ _ _,vs,hnew,by simp only[ahY];omega,fun j x hj=>by
   simp only[ahZ,aft]at hj
   obtain⟨d0,hd0,rfl⟩:=hj
   rw[agj]
   by_cases hdd:er d0=true
   ·rw[iI hdd]
    exact (eu hdd).2.2.2 (hdat _ _ j d0 hd0 hdd)
   ·cases d0<;>first|trivial|exact absurd rfl hdd⟩⟩ rfl rfl (fun _ g hg j x s' n' hj=>by
   cases hg
   simp only[ahZ,aft]at hj
   obtain⟨d0,hd0,he⟩:=hj
   obtain⟨xs,rfl,rfl,rfl⟩:=oh he
   have hlt:=(afY.1 hd0).1
   refine⟨⟨hdp,.inr rfl⟩,_,aK hnew (by omega),fun r hr =>?_⟩
   rw[au _ _ (hKd j),hEn]at hr
   cases hr)
 obtain⟨S,hS⟩:∃S:Nat->Prop,∀k,S k↔∃o xs,k=NK d o∧cs[o]? = some (.nx 0 xs):=⟨_,fun _=>Iff.rfl⟩
 have hC:=hB.addEmpty S ty' (4*e+2) (h':=EH (bz h d (some ⟨e,el,[.nr ty' s (4*e+2) cs],false,true,true⟩))) (blk':=fun k=>if S k then none else bz blk d (some (w.heap.size,0)) k) (fun k hk=>by
   obtain⟨o',xs,rfl,ho'⟩:=(hS k).1 hk
   have:=dX d o'
   refine⟨by omega,by omega,?_,by rw[au _ _ (hKd o'),hEn]⟩
   rintro (hv|⟨he,_⟩)
   ·exact hV' o' hv
   ·exact hKd o' he) (fun k hk=>by
   refine⟨?_,by rw[if_pos hk]⟩
   obtain⟨o',xs,rfl,ho'⟩:=(hS k).1 hk
   rw[dP (aq _ _ _) rfl rfl hdp,ho']
   obtain⟨_,rfl,_⟩:=hnil o' 0 xs ho'
   rfl) (fun k hk=>by
   refine⟨?_,by rw[if_neg hk]⟩
   by_cases hkd:rt k=d
   ·rcases mz hkd with rfl|⟨o',rfl⟩
    ·rw[aq,eR (aq _ _ _) rfl rfl hdp]
    ·rw[au _ _ (hKd o'),hEn,dP (aq _ _ _) rfl rfl hdp]
     cases hco:cs[o']? with
     | none=>rfl
     | some d0 =>
      cases d0 with
      | nx n' xs =>
       obtain⟨rfl,_,_⟩:=hnil o' n' xs hco
       exact absurd ((hS _).2 ⟨o',xs,rfl,hco⟩) hk
      | _=>rfl
   ·rw[au _ _ (fun e=>hkd (by rw[e,fX (by omega)]))]
    exact dA (by rw[au _ _ hkd,au _ _ hkd])) (fun y r g hy hm hg j x s' n' hj hs=>by
   obtain⟨o',xs,rfl,ho'⟩:=(hS _).1 hs
   obtain⟨⟨p1,p2⟩,u,p3,_⟩:=hB.pha y r g hy hm hg j _ s' n' hj
   rcases p2 with p2|p2
   ·have:=dX d o';omega
   obtain⟨rfl,rfl⟩:=qu hdp p1 p2
   rw[aq]at hy hg
   cases hy
   cases hg
   simp only[ahZ,aft]at hj
   obtain⟨d0,hd0,he⟩:=hj
   obtain⟨xs',rfl,_,rfl⟩:=oh he
   obtain⟨k1,_,k3⟩:=hnil o' n' xs' hd0
   have hlt:=(afY.1 hd0).1
   refine⟨_,aK hnew (by omega),k1,none,?_⟩
   rw[agj]
   exact k3)
 have hSd:¬S d:=fun hs=>by
  obtain⟨o',_,he,_⟩:=(hS d).1 hs
  exact hKd o' he.symm
 refine aD (v := .slice (some ⟨w.heap.size,0,none⟩) n k) (w':=w.alloc (.cells vs el)) ?_ ⟨fun k=>if S k then none else bz blk d (some (w.heap.size,0)) k,?_,?_⟩
 ·simp[execOp,ho,hl,hcv,hrun]
 ·refine hC.weaken fun x v hx =>?_
  rcases hx with hx|⟨rfl,rfl⟩
  ·exact .inl hx
  ·exact .inr ⟨hd,rfl⟩
 ·exact qw (g:=(w.heap.size,0)) (.inr ⟨hd,rfl⟩) (by rw[if_neg hSd,aq]) hnew c1 c2 (by rw[hsz];simp)
end
section
variable {P:Program} {T:Nat->Option Ty} {N:Nat} {M:Nat->Prop} {L:ik} {w0:World} {blk:Nat->Option (Nat×Nat)} {V:Nat->Nat->Prop} {t:Nat->D} {h:Nat->Option Row} {a:Act} {w:World} {e:Nat} {o:Oper} {Γ:Env}
theorem Inv.abB (hI:Inv N M L w0 blk V t h a w) (S:Nat->Prop) {w':World} {h':Nat->Option Row} {blk':Nat->Option (Nat×Nat)} {V':Nat->Nat->Prop} (hVV:∀x v,V x v->V' x v)
  (hos:w'.os=w.os) (htape:w'.tape=w.tape) (hout:w'.output=w.output) (hsize:w.heap.size<=w'.heap.size)
  (hblock:∀k,k<w.heap.size->(∀x r g,S x->h x=some r->blk x=some g->k≠g.1)->w'.heap[k]? = w.heap[k]?)
  (hfz:∀x r,S x->h x=some r->r.fz=false)
  (hne:∀x,¬S x->h' x=h x∧blk' x=blk x)
  (hin:∀x r,S x->h' x=some r->r.fz=false∧(x<N->V' x r.v)∧(match blk' x with
   | some g=>(w.heap.size<=g.1∨∃y s g0,S y∧h y=some s∧blk y=some g0∧g.1=g0.1)∧du w' (Own M h' blk') g r
   | none=>r.cells=[]))
  (hinj:∀x y r s g g',S x->S y->h' x=some r->h' y=some s->blk' x=some g->blk' y=some g'->g.1=g'.1->x=y)
  (hslot:∀x r,S x->V x r.v->h' x=some r->(∃r0,h x=some r0∧r0.v=r.v)∧blk' x=blk x∧∀g,blk x=some g->w'.shape? g.1=w.shape? g.1)
  (hpha:∀y r g,S y->h' y=some r->r.mp=true->blk' y=some g->∀j x s n:Nat,r.cells[j]? = some (D.ph x s n)->PC y j x∧∃u,w'.cell? ⟨g.1,g.2+j,none⟩=some u∧PhR w' h' blk' x s n u)
  (hno:∀y r (j x s n:Nat),¬S y->h y=some r->r.mp=true->r.cells[j]? = some (D.ph x s n)->¬S x) :
  Inv N M L w0 blk' V' t h' a w':=by
 have hother:∀x r g,¬S x->h x=some r->blk x=some g->w'.heap[g.1]? = w.heap[g.1]?:=fun x r g hs hx hg=>hblock _ (hI.lt hx hg) (fun y r' g' hy hy1 hg' e=>hs (by rw[hI.inj x y r r' g g' hx hy1 hg hg' e];exact hy))
 have hkeep:∀b,b<w.heap.size->¬Own M h blk b->w'.heap[b]? = w.heap[b]?:=fun b hb hn=>hblock b hb fun x r g hs hx hg he=>hn (.inr ⟨x,r,g,hx,hfz x r hs hx,hg,he.symm⟩)
 have hold:∀x r g,h' x=some r->blk' x=some g->w.heap.size<=g.1∨∃y s g0,h y=some s∧blk y=some g0∧g.1=g0.1∧(S y↔S x)∧(s.fz=false∨s=r)∧(S x∨y=x):=by
  intro x r g hx hg
  by_cases hs:S x
  ·have:=(hin x r hs hx).2.2
   rw[hg]at this
   rcases this.1 with k|⟨y,s,g0,k1,k2,k3,k4⟩
   ·exact .inl k
   ·exact .inr ⟨y,s,g0,k2,k3,k4,⟨fun _=>hs,fun _=>k1⟩,.inl (hfz y s k1 k2),.inl hs⟩
  ·obtain⟨k1,k2⟩:=hne x hs
   exact .inr ⟨x,r,g,by rw[<- k1];exact hx,by rw[<- k2];exact hg,rfl,Iff.rfl,.inr rfl,.inr rfl⟩
 have hown:∀b,b<w.heap.size->¬Own M h blk b->¬Own M h' blk' b:=by
  intro b hb hn hb'
  rcases hb' with hb'|⟨x,r,g,hx,hz,hg,he⟩
  ·exact hn (.inl hb')
  ·rcases hold x r g hx hg with k|⟨y,s,g0,k1,k2,k3,_,k4,_⟩
   ·omega
   ·exact hn (.inr ⟨y,s,g0,k1,k4.elim id (fun e=>by rw[e];exact hz),k2,by rw[<- k3,he]⟩)
 have hk:∀b,b<w.heap.size->¬Own M h blk b->b<w'.heap.size∧¬Own M h' blk' b∧w'.heap[b]? = w.heap[b]?:=fun b h1 h2=>⟨by omega,hown b h1 h2,hkeep b h1 h2⟩
 have hsl:∀x v,V x v->∀r',h' x=some r'->r'.v=v->(∃r,h x=some r∧r.v=v)∧blk' x=blk x∧∀g,blk x=some g->w'.shape? g.1=w.shape? g.1:=by
  intro x v hv r' hx hr
  by_cases hs:S x
  ·subst hr;exact hslot x r' hs hv hx
  ·obtain⟨k1,k2⟩:=hne x hs
   rw[k1]at hx
   exact⟨⟨r',hx,hr⟩,k2,fun g hg=>b8 (hother x r' g hs hx hg)⟩
 have hKp:FT w w' (Own M h blk) (Own M h' blk') h h' blk blk' V V':=⟨hk,hVV,hsl⟩
 exact {
  tab:=hI.tab.keep hk
  below:=hI.below.trans (L':=fun k=>∃x r g,S x∧h x=some r∧blk x=some g∧k=g.1) ⟨hos,htape,hout,hsize,fun k hk' hn=>hblock k hk' (fun x r g hs hx hg he=>hn ⟨x,r,g,hs,hx,hg,he⟩)⟩ (fun k ⟨x,r,g,hs,hx,hg,he⟩ hlt=>by
   rcases hI.base hx hg with hb|hb
   ·omega
   ·rw[he];exact hb)
  mlt:=hI.mlt
  lent:=hI.lent
  pin:=fun p hp=>⟨hVV _ _ (hI.pin p hp).1,fun r hr hv=>by
   obtain⟨⟨r0,k1,k2⟩,k3,k4⟩:=hsl 0 0 (hI.pin p hp).1 r hr hv
   obtain⟨q1,q2⟩:=(hI.pin p hp).2 r0 k1 k2
   exact⟨k3.trans q1,fun g hg=>(k4 g (q1.trans hg)).trans (q2 g hg)⟩⟩
  defers:=hI.defers
  tsz:=hI.tsz
  slots:=fun i=>(hI.slots i).mono hKp
  rows:=fun x r hx=>by
   by_cases hs:S x
   ·obtain⟨k1,k2,k3⟩:=hin x r hs hx
    refine⟨k2,?_⟩
    cases hg:blk' x with
    | none=>rw[hg]at k3;exact k3
    | some g =>
     rw[hg]at k3
     refine⟨?_,k3.2⟩
     rcases k3.1 with q|⟨y,s,g0,_,q2,q3,q4⟩
     ·exact .inl (afx hI.below.size q)
     ·rw[q4];exact hI.base q2 q3
   ·obtain⟨k1,k2⟩:=hne x hs
    rw[k1]at hx
    rw[k2]
    exact⟨fun hn=>hVV _ _ ((hI.rows x r hx).1 hn),(hI.rows x r hx).2.keep (fun g hg=>hother x r g hs hx hg) hk⟩
  inj:=fun x y r s g g' hx hy hg hg' he=>by
   by_cases hsx:S x
   ·by_cases hsy:S y
    ·exact hinj x y r s g g' hsx hsy hx hy hg hg' he
    ·exfalso
     obtain⟨k1,k2⟩:=hne y hsy
     rw[k1]at hy
     rw[k2]at hg'
     rcases hold x r g hx hg with k|⟨z,s0,g0,q1,q2,q3,q4,_⟩
     ·have:=hI.lt hy hg';omega
     ·have:=hI.inj z y s0 s g0 g' q1 hy q2 hg' (q3.symm.trans he)
      subst this
      exact hsy (q4.2 hsx)
   ·obtain⟨k1,k2⟩:=hne x hsx
    rw[k1]at hx
    rw[k2]at hg
    by_cases hsy:S y
    ·exfalso
     rcases hold y s g' hy hg' with k|⟨z,s0,g0,q1,q2,q3,q4,_⟩
     ·have:=hI.lt hx hg;omega
     ·have:=hI.inj z x s0 r g0 g q1 hx q2 hg (q3.symm.trans he.symm)
      subst this
      exact hsx (q4.2 hsy)
    ·obtain⟨k3,k4⟩:=hne y hsy
     rw[k3]at hy
     rw[k4]at hg'
     exact hI.inj x y r s g g' hx hy hg hg' he
  big:=hI.big
  pha:=fun y r g hy hm hg j x s n hc=>by
   by_cases hs:S y
   ·exact hpha y r g hs hy hm hg j x s n hc
   ·obtain⟨k1,k2⟩:=hne y hs
    rw[k1]at hy
    rw[k2]at hg
    obtain⟨h0,u,q1,q2⟩:=hI.pha y r g hy hm hg j x s n hc
    have hsx:=hno y r j x s n hs hy hm hc
    obtain⟨k3,k4⟩:=hne x hsx
    exact⟨h0,u,(afr (a:=⟨g.1,g.2+j,none⟩) (hother y r g hs hy hg)).trans q1,q2.mono fun r' g1=>by
     rw[k3]at g1
     exact⟨⟨r',g1⟩,k4,fun g' hg'=>b8 (hother x r' g' hsx g1 hg')⟩⟩
  ali:=fun y r g hy hz hl hg j c d' hj hd'=>by
   by_cases hs:S y
   ·rw[(hin y r hs hy).1]at hz;cases hz
   ·obtain⟨k1,k2⟩:=hne y hs
    rw[k1]at hy
    rw[k2]at hg
    obtain⟨u,q1,q2⟩:=hI.ali y r g hy hz hl hg j c d' hj hd'
    exact⟨u,(afr (a:=⟨g.1,g.2+j,none⟩) (hother y r g hs hy hg)).trans q1,q2.mono hKp⟩ }
theorem RL {h:Nat->Option Row} {k:Nat} (hk:h (rt k)=none):EH h k=none:=by
 have:=dA (h:=h) (h':=fun _=>none) (k:=k) hk
 rw[this]
 unfold EH
 split<;>rfl
theorem dK {h:Nat->Option Row} {x k:Nat} {r r':Row} {ty s nv:Nat} {cs:List D} (hx:h x=some r) (hm:r.mp=true) (hc:r.cells=[.nr ty s nv cs]) (hp:x<PK) (hk:rt k=x) (he:EH h k=some r') :
  (k=x∧r'=⟨r.v,r.ty,cs.mapIdx (ow x s),r.fz,r.lst,true⟩)∨∃o n xs,k=NK x o∧cs[o]? = some (.nx n xs)∧r'=⟨nv,ty,xs,r.fz,true,false⟩:=by
 rcases mz hk with rfl|⟨o,rfl⟩
 ·rw[eR hx hm hc hp]at he
  exact .inl ⟨rfl,by simpa using he.symm⟩
 ·rw[dP hx hm hc hp]at he
  unfold DH at he
  split at he
  ·rename_i n xs ho
   exact .inr ⟨o,n,xs,rfl,ho,by simpa using he.symm⟩
  ·cases he
theorem yl {x:Nat} (hp:x<PK):rt x=x:=fX (by have:=bZ;omega)
theorem aaF {r r':Row} {k:Nat} (he:EH (lB r) k=some r'):rt k=0:=by
 by_cases hk:rt k=0
 ·exact hk
 ·rw[RL (by unfold lB;rw[if_neg hk])]at he
  cases he
theorem lh:0<PK:=by rw[bZ];decide
theorem gO {k ty t s nv:Nat} {cs:List D} {r':Row} (he:EH (lB (gW ty t s nv cs)) k=some r') :
  (k=0∧r'=⟨0,ty,cs.mapIdx (ow 0 s),false,true,true⟩)∨∃o n xs,k=NK 0 o∧cs[o]? = some (.nx n xs)∧r'=⟨nv,t,xs,false,true,false⟩ :=
 dK (r:=gW ty t s nv cs) rfl rfl rfl lh (aaF he) he
theorem tB {ty t s nv:Nat} {cs:List D} : EH (lB (gW ty t s nv cs)) 0=some ⟨0,ty,cs.mapIdx (ow 0 s),false,true,true⟩ :=
 eR (r:=gW ty t s nv cs) rfl rfl rfl lh
theorem rG {ty t s nv o n:Nat} {cs xs:List D} (ho:cs[o]? = some (.nx n xs)):EH (lB (gW ty t s nv cs)) (NK 0 o)=some ⟨nv,t,xs,false,true,false⟩:=by
 rw[dP (r:=gW ty t s nv cs) rfl rfl rfl lh,ho]
 rfl
def U9 (x k:Nat):Nat:=@ite _ (k<2*PK) (ltB k (2*PK)) x (NK x (k / PK-2))
theorem py (x:Nat):U9 x 0=x:=if_pos (by have:=bZ;omega)
theorem mW (x o:Nat):U9 x (NK 0 o)=NK x o:=by
 unfold U9
 rw[if_neg (by have:=dX 0 o;omega),BL o lh]
def ov (blk:Nat->Option (Nat×Nat)) (x k:Nat):Option (Nat×Nat):=blk (U9 x k)
def InX (blk:Nat->Option (Nat×Nat)) (h:Nat->Option Row) (x b:Nat):Prop:=∃k r g,rt k=x∧EH h k=some r∧blk k=some g∧g.1=b
theorem I5 {h:Nat->Option Row} {x:Nat} {r:Row} {ty s nv:Nat} {cs:List D} (hx:h x=some r) (hm:r.mp=true) (hc:r.cells=[.nr ty s nv cs]) (hp:x<PK) (b:Nat):tU (ov blk x) (EH (lB (gW r.ty ty s 0 cs))) b↔InX blk h x b:=by
 constructor
 ·rintro⟨k,r',g,h1,h2,h3⟩
  rcases gO h1 with⟨rfl,_⟩|⟨o,n,xs,rfl,ho,_⟩
  ·rw[ov,py]at h2
   exact⟨x,_,g,yl hp,eR hx hm hc hp,h2,h3⟩
  ·rw[ov,mW]at h2
   exact⟨NK x o,_,g,rX hp,by rw[dP hx hm hc hp,ho];rfl,h2,h3⟩
 ·rintro⟨k,r',g,h0,h1,h2,h3⟩
  rcases dK hx hm hc hp h0 h1 with⟨rfl,_⟩|⟨o,n,xs,rfl,ho,_⟩
  ·exact⟨0,_,g,tB,by rw[ov,py];exact h2,h3⟩
  ·exact⟨NK 0 o,_,g,rG ho,by rw[ov,mW];exact h2,h3⟩
theorem Inv.aca (hI:Inv N M L w0 blk V t (EH h) a w) {x:Nat} {r:Row} {ty s nv:Nat} {cs:List D} (hx:h x=some r) (hm:r.mp=true) (hc:r.cells=[.nr ty s nv cs]) (hz:r.fz=false) (hp:x<PK) {Q:Nat->Prop} (hQ:∀b,Q b->Own M (EH h) blk b) :
  FW w Q (ov blk x) (EH (lB (gW r.ty ty s 0 cs))) where
 rows k r' hk:=by
  rcases gO hk with⟨rfl,rfl⟩|⟨o,n,xs,rfl,ho,rfl⟩
  ·rw[ov,py]
   cases hg:blk x with
   | none =>
    have:=(hI.rows x _ (eR hx hm hc hp)).2
    rw[hg]at this
    have h1:cs.mapIdx (ow x s)=[]:=this
    have h2:cs.length=0:=by
     have:=congrArg List.length h1
     simpa using this
    show cs.mapIdx (ow 0 s)=[]
    rw[agO h2]
    rfl
   | some g =>
    obtain⟨arr,k1,k2,k3⟩:=hI.Aq hx hm hc hp hg
    refine .inr ⟨fun d hd =>?_,arr,k1,by simpa using k2,fun j d hj =>?_⟩
    ·obtain⟨j,hj⟩:=afR hd
     simp only[ahZ,aft]at hj
     obtain⟨d0,hd0,rfl⟩:=hj
     exact jK _ _ _ _
    ·simp only[ahZ,aft]at hj
     obtain⟨d0,hd0,rfl⟩:=hj
     by_cases hdd:er d0=true
     ·rw[iI hdd]
      exact (eu hdd).2.2.2 ((k3 j d0 hd0 hdd).less hQ)
     ·cases d0<;>first|trivial|exact absurd rfl hdd
  ·rw[ov,mW]
   have hq:EH h (NK x o)=some ⟨nv,ty,xs,r.fz,true,false⟩:=by rw[dP hx hm hc hp,ho];rfl
   have:=(hI.rows _ _ hq).2
   cases hg:blk (NK x o) with
   | none=>rw[hg]at this;exact this
   | some g =>
    rw[hg]at this
    obtain⟨arr,k1,k2,k3⟩:=this.2
    exact⟨arr,k1,k2,fun j d hj=>⟨(k3 j d hj).1,(k3 j d hj).2.less hQ⟩⟩
 inj k l r1 r2 g g' hk hl hg hg' he:=by
  have key:∀ {k:Nat} {r1:Row} {g:Nat×Nat},EH (lB (gW r.ty ty s 0 cs)) k=some r1->ov blk x k=some g->∃r2,EH h (U9 x k)=some r2∧blk (U9 x k)=some g:=by
   intro k r1 g hk hg
   rcases gO hk with⟨rfl,_⟩|⟨o,n,xs,rfl,ho,_⟩
   ·exact⟨_,by rw[py];exact eR hx hm hc hp,hg⟩
   ·exact⟨_,by rw[mW,dP hx hm hc hp,ho];rfl,hg⟩
  obtain⟨q1,k1,k2⟩:=key hk hg
  obtain⟨q2,k3,k4⟩:=key hl hg'
  have e1:=hI.inj _ _ _ _ _ _ k1 k3 k2 k4 he
  rcases gO hk with⟨rfl,_⟩|⟨o,n,xs,rfl,ho,_⟩
  ·rcases gO hl with⟨rfl,_⟩|⟨o',n',xs',rfl,ho',_⟩
   ·rfl
   ·rw[py,mW]at e1
    have:=dX x o';have:=bZ;omega
  ·rcases gO hl with⟨rfl,_⟩|⟨o',n',xs',rfl,ho',_⟩
   ·rw[py,mW]at e1
    have:=dX x o;have:=bZ;omega
   ·rw[mW,mW]at e1
    rw[(qu hp hp e1).2]
 pha k r' g hk hm' hg j x' s' n hj:=by
  rcases gO hk with⟨rfl,rfl⟩|⟨o,n,xs,rfl,ho,rfl⟩
  rotate_left
  ·cases hm'
  rw[ov,py]at hg
  simp only[ahZ,aft]at hj
  obtain⟨d0,hd0,he⟩:=hj
  obtain⟨xs1,rfl,rfl,rfl⟩:=oh he
  obtain⟨u,k1,k2⟩:=hI.DL hx hm hc hp hg hd0
  refine⟨⟨lh,.inr rfl⟩,u,k1,fun _ _ =>?_⟩
  unfold ov
  rw[mW]
  exact k2
def E8 (x k:Nat):Nat:=if k=x then 0 else NK 0 (k / PK-2)
theorem sB (x:Nat):E8 x x=0:=if_pos rfl
theorem jE {x:Nat} (hp:x<PK) (o:Nat):E8 x (NK x o)=NK 0 o:=by
 unfold E8
 rw[if_neg (by have:=dX x o;have:=bZ;omega),BL o hp]
def mw (blk blk1:Nat->Option (Nat×Nat)) (x k:Nat):Option (Nat×Nat):=if rt k=x then blk1 (E8 x k) else blk k
theorem Inv.back (hI:Inv N M L w0 blk V t (EH h) a w) {x:Nat} {r:Row} {ty s nv nv':Nat} {cs cs':List D} {g0:Nat×Nat} (hx:h x=some r) (hm:r.mp=true) (hc:r.cells=[.nr ty s nv cs]) (hz:r.fz=false) (hp:x<PK)
  (hV:∀o,¬V (NK x o) nv') (hg0:blk x=some g0) {w':World} {blk1:Nat->Option (Nat×Nat)} {M':Nat->Prop} {h1:Nat->Option Row} (hh1:h1=EH (lB (gW r.ty ty s 0 cs'))) (hM':∀b,M' b↔Own M (EH h) blk b∧¬InX blk h x b)
  (hb:dJ (InX blk h x) w w') (h0:blk1 0=some g0) (hsh:w'.shape? g0.1=w.shape? g0.1) (hnew:∀b,tU blk1 h1 b->w.heap.size<=b∨InX blk h x b) (hR:FW w' (fun b=>M' b∨tU blk1 h1 b) blk1 h1) :
  Inv N M L w0 (mw blk blk1 x) V t (EH (bz h x (some ⟨r.v,r.ty,[.nr ty s nv' cs'],false,r.lst,true⟩))) a w'∧∀b,Own M (EH (bz h x (some ⟨r.v,r.ty,[.nr ty s nv' cs'],false,r.lst,true⟩))) (mw blk blk1 x) b->M' b∨tU blk1 h1 b:=by
 generalize hh2:bz h x (some (⟨r.v,r.ty,[.nr ty s nv' cs'],false,r.lst,true⟩:Row))=h2
 have hx2:h2 x=some ⟨r.v,r.ty,[.nr ty s nv' cs'],false,r.lst,true⟩:=by rw[<- hh2,aq]
 have hne2:∀k,rt k≠x->EH h2 k=EH h k:=fun k hk=>dA (by rw[<- hh2,au _ _ hk])
 have hbne:∀k,rt k≠x->mw blk blk1 x k=blk k:=fun k hk=>if_neg hk
 have hbx:mw blk blk1 x x=blk1 0:=by unfold mw;rw[if_pos (yl hp),sB]
 have hbN:∀o,mw blk blk1 x (NK x o)=blk1 (NK 0 o):=fun o=>by unfold mw;rw[if_pos (rX hp),jE hp]
 subst hh1
 have hkey:∀k r',rt k=x->EH h2 k=some r'->∃r1,EH (lB (gW r.ty ty s 0 cs')) (E8 x k)=some r1∧mw blk blk1 x k=blk1 (E8 x k):=by
  intro k r' hk he
  have hq:mw blk blk1 x k=blk1 (E8 x k):=if_pos hk
  rcases dK hx2 rfl rfl hp hk he with⟨rfl,_⟩|⟨o,n,xs,rfl,ho,_⟩
  ·rw[sB]at hq ⊢;exact⟨_,tB,hq⟩
  ·rw[jE hp]at hq ⊢;exact⟨_,rG ho,hq⟩
 have hown:∀b,Own M (EH h2) (mw blk blk1 x) b->M' b∨tU blk1 (EH (lB (gW r.ty ty s 0 cs'))) b:=by
  intro b hb'
  rcases hb' with hb'|⟨k,r',g,hk,hz',hg,he⟩
  ·refine .inl ((hM' b).2 ⟨.inl hb',?_⟩)
   rintro⟨k,r',g,_,q1,q2,q3⟩
   exact hI.notM q1 q2 (by rw[q3];exact hb')
  ·by_cases hkx:rt k=x
   ·obtain⟨r1,q1,q2⟩:=hkey k r' hkx hk
    exact .inr ⟨_,r1,g,q1,by rw[<- q2];exact hg,he⟩
   ·rw[hne2 k hkx]at hk
    rw[hbne k hkx]at hg
    refine .inl ((hM' b).2 ⟨.inr ⟨k,r',g,hk,hz',hg,he⟩,?_⟩)
    rintro⟨l,s',g',q0,q1,q2,q3⟩
    have:=hI.inj k l r' s' g g' hk q1 hg q2 (he.trans q3.symm)
    subst this
    exact hkx q0
 refine⟨?_,hown⟩
 have hfzS:∀k r',rt k=x->EH h k=some r'->r'.fz=false:=by
  intro k r' hk he
  rcases dK hx hm hc hp hk he with⟨_,rfl⟩|⟨o,n,xs,_,_,rfl⟩<;>exact hz
 refine hI.abB (fun k=>rt k=x) (fun _ _ h=>h) hb.os hb.tape hb.output hb.size (fun k hk hn=>hb.block k hk ?_) hfzS (fun k hk=>⟨hne2 k hk,hbne k hk⟩) ?_ ?_ ?_ ?_ ?_
 ·rintro⟨l,r',g,q0,q1,q2,q3⟩
  exact hn l r' g q0 q1 q2 q3.symm
 ·intro k r' hk he
  have hplace:∀g,mw blk blk1 x k=some g->w.heap.size<=g.1∨∃y s g0,rt y=x∧EH h y=some s∧blk y=some g0∧g.1=g0.1:=by
   intro g hg
   obtain⟨r1,q1,q2⟩:=hkey k r' hk he
   rcases hnew g.1 ⟨_,r1,g,q1,by rw[<- q2];exact hg,rfl⟩ with q|⟨y,s',g',p0,p1,p2,p3⟩
   ·exact .inl q
   ·exact .inr ⟨y,s',g',p0,p1,p2,p3.symm⟩
  have hRle:∀ {g:Nat×Nat} {r1:Row},r1.mp=false->du w' (fun b=>M' b∨tU blk1 (EH (lB (gW r.ty ty s 0 cs'))) b) g r1->du w' (Own M (EH h2) (mw blk blk1 x)) g r1:=by
   intro g r1 hm1 hr
   unfold du at hr ⊢
   rw[hm1]at hr ⊢
   obtain⟨arr,k1,k2,k3⟩:=hr
   exact⟨arr,k1,k2,fun j d hj=>⟨(k3 j d hj).1,(k3 j d hj).2.less hown⟩⟩
  rcases dK hx2 rfl rfl hp hk he with⟨rfl,rfl⟩|⟨o,n,xs,rfl,ho,rfl⟩
  ·refine⟨rfl,fun hn=>by have:=(hI.rows k _ (eR hx hm hc hp)).1 hn;exact this,?_⟩
   rw[hbx,h0]
   refine⟨hplace g0 (hbx.trans h0),?_⟩
   have hr0:=hR.rows 0 _ tB
   rw[h0]at hr0
   have hr0:du w' (fun b=>M' b∨tU blk1 (EH (lB (gW r.ty ty s 0 cs'))) b) g0 ⟨0,r.ty,cs'.mapIdx (ow 0 s),false,true,true⟩:=hr0
   unfold du at hr0 ⊢
   simp only at hr0 ⊢
   rcases hr0 with⟨ks,vs,k1,_⟩|⟨_,arr,k2,k3,k4⟩
   ·exfalso
    simp only at k1
    have hl:cs'.length=1:=by
     have:=congrArg List.length k1
     simpa using this
    match cs',hl with
    | [d],_ =>
     simp only[List.mapIdx_cons,List.mapIdx_nil,afT,and_true]at k1
     have:=jK 0 s 0 d
     rw[k1]at this
     cases this
   ·refine .inr ⟨fun d hd =>?_,arr,k2,by simpa using k3,fun j d hj =>?_⟩
    ·obtain⟨j,hj⟩:=afR hd
     simp only[ahZ,aft]at hj
     obtain⟨d0,hd0,rfl⟩:=hj
     exact jK _ _ _ _
    ·simp only[ahZ,aft]at hj
     obtain⟨d0,hd0,rfl⟩:=hj
     by_cases hdd:er d0=true
     ·rw[iI hdd]
      have hj':(cs'.mapIdx (ow 0 s))[j]? = some d0:=by rw[ahZ,hd0];exact congrArg some (iI hdd)
      exact (eu hdd).2.2.2 (((eu hdd).2.2.1 (k4 j _ hj')).less hown)
     ·cases d0<;>first|trivial|exact absurd rfl hdd
  ·refine⟨rfl,fun hn=>by have:=dX x o;have:=hI.big;have:=bZ;omega,?_⟩
   have hr0:=hR.rows _ _ (rG ho)
   rw[hbN]
   cases hg:blk1 (NK 0 o) with
   | none=>rw[hg]at hr0;exact hr0
   | some g =>
    rw[hg]at hr0
    refine⟨hplace g ((hbN o).trans hg),hRle rfl ?_⟩
    obtain⟨arr,k1,k2,k3⟩:=hr0
    exact⟨arr,k1,k2,k3⟩
 ·intro k l r1 r2 g g' hk hl he he' hg hg' hgg
  obtain⟨q1,p1,p2⟩:=hkey k r1 hk he
  obtain⟨q2,p3,p4⟩:=hkey l r2 hl he'
  have e1:=hR.inj _ _ _ _ g g' p1 p3 (by rw[<- p2];exact hg) (by rw[<- p4];exact hg') hgg
  rcases dK hx2 rfl rfl hp hk he with⟨rfl,_⟩|⟨o,n,xs,rfl,ho,_⟩
  ·rcases dK hx2 rfl rfl hp hl he' with⟨rfl,_⟩|⟨o',n',xs',rfl,ho',_⟩
   ·rfl
   ·rw[sB,jE hp]at e1
    have:=dX 0 o';have:=bZ;omega
  ·rcases dK hx2 rfl rfl hp hl he' with⟨rfl,_⟩|⟨o',n',xs',rfl,ho',_⟩
   ·rw[sB,jE hp]at e1
    have:=dX 0 o;have:=bZ;omega
   ·rw[jE hp,jE hp]at e1
    rw[(qu lh lh e1).2]
 ·intro k r' hk hv he
  rcases dK hx2 rfl rfl hp hk he with⟨rfl,rfl⟩|⟨o,n,xs,rfl,ho,rfl⟩
  ·refine⟨⟨_,eR hx hm hc hp,rfl⟩,by rw[hbx,h0,hg0],fun g hg =>?_⟩
   rw[hg0]at hg
   cases hg
   exact hsh
  ·exact absurd hv (hV o)
 ·intro k r' g hk he hm' hg j x' s' n hj
  rcases dK hx2 rfl rfl hp hk he with⟨rfl,rfl⟩|⟨o,n',xs,rfl,ho,rfl⟩
  rotate_left
  ·cases hm'
  simp only[ahZ,aft]at hj
  obtain⟨d0,hd0,he0⟩:=hj
  obtain⟨xs1,rfl,rfl,rfl⟩:=oh he0
  rw[hbx]at hg
  obtain⟨_,u,k1,k2⟩:=hR.pha 0 _ g tB rfl hg j (NK 0 j) s' n (by simp only[ahZ,hd0,Option.map_some,ow])
  refine⟨⟨hp,.inr rfl⟩,u,k1,fun _ _ =>?_⟩
  have:=k2 _ (rG hd0)
  rw[hbN]
  exact this
 ·intro y r' j x' s' n hy he hm' hj hx'
  have hrow:=(hI.rows y r' he).2
  cases hg:blk y with
  | none =>
   rw[hg]at hrow
   have hrow:r'.cells=[]:=hrow
   rw[hrow]at hj
   cases hj
  | some g =>
   obtain⟨q1,q2⟩:=(hI.pha y r' g he hm' hg j x' s' n hj).1
   rcases q2 with rfl|rfl
   ·have:rt (PK+y)=PK+y:=fX (by omega)
    rw[this]at hx'
    omega
   ·rw[rX q1]at hx'
    rw[yl q1]at hy
    exact hy hx'
end
end Go.Proofs.YtmcncjgbkobjnaaGreat.Am
