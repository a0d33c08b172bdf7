/- Parts of the proof. Conditions: none. -/
import Derived.Test.YtmkffehchicgaaaGreatPf15
import Derived.Test.YtmkffehchicgaaaGreatPf22
import Derived.Test.YtmkffehchicgaaaGreatPf24
import Derived.Test.YtmkffehchicgaaaGreatPf25
import Derived.Test.YtmkffehchicgaaaGreatPf27
set_option linter.unusedSimpArgs false
set_option linter.unusedVariables false
namespace Go.AM
open List Nat Bool Option
open Go Go.Proofs
noncomputable section
variable {rs:List aR} {r:aR} {s:uv×Bool} {h:ag} {n i hi j V:Nat} {K:AX->St->Bool} {vs:List Int} {hs:List bQ} {nm:bQ} {rules:Sl aR} {R R0:uv} {all:Sl bQ} {out:eG} {L:Lk}
section
variable {n:Nat} {L:Lk} {rs:List aR}
def sg(n:Nat)(L:Lk)(hs:List bQ)(r:aR)(s:uv×Bool)(vs:List Int):uv×Bool:=
 if iz n L r vs=true then (if CM s.1 hs r vs<s.1 r.name (aM vs (placesOf (varsOf r) r.args.l)) then (BC s.1 r.name (aM vs (placesOf (varsOf r) r.args.l)) (CM s.1 hs r vs),true) else s) else s
def jT(n:Nat)(L:Lk)(hs:List bQ)(r:aR)(m:Nat)(s:uv×Bool):uv×Bool:=(List.range m).foldl (fun s i=>sg n L hs r s (cU n (varsOf r).length i)) s
def qD(n:Nat)(L:Lk)(hs:List bQ)(rs:List aR)(s:uv×Bool):uv×Bool:=rs.foldl (fun s r=>jT n L hs r (n ^ (varsOf r).length) s) s
theorem vm{m:Nat}:jT n L hs r (m+1) s=sg n L hs r (jT n L hs r m s) (cU n (varsOf r).length m):=by unfold jT;rw [range_succ,foldl_append];rfl
theorem P0(hr:rs[i]?=some r)(s:uv×Bool):qD n L hs (rs.take (i+1)) s=jT n L hs r (n ^ (varsOf r).length) (qD n L hs (rs.take i) s):=by
 unfold qD;rw [take_add_one,hr];simp
theorem DE(h:(sg n L hs r s vs).2=false):sg n L hs r s vs=s:=by
 unfold sg at h ⊢;by_cases h1:iz n L r vs=true
 ·rw [if_pos h1] at h ⊢;split at h
  ·cases h
  ·rename_i h2;rw [if_neg h2]
 ·rw [if_neg h1]
theorem NI{m:Nat}(h:(jT n L hs r m s).2=false):jT n L hs r m s=s:=by
 have h0:jT n L hs r m s=((jT n L hs r m s).1,false):=Prod.ext rfl h;rw [h0];exact (j4 (st:=fun s:uv×Bool=>s) (f:=fun s i=>sg n L hs r s (cU n (varsOf r).length i)) (fun a b=>DE) (List.range m) s h0).symm
theorem range_split{m:Nat}(hj:j<=m):List.range m=List.range j++(List.range (m-j)).map (j + ·):=by
 rw [<- range_add];congr 1;omega
theorem Ln(n1:1<=n)(h:(qD n L (ax rs) rs (R,false)).2=false):(qD n L (ax rs) rs (R,false)).1=R/\sZ n L rs R:=by
 have h0:qD n L (ax rs) rs (R,false)=((qD n L (ax rs) rs (R,false)).1,false):=Prod.ext rfl h;have hq:∀ (s:uv×Bool) (r:aR),(jT n L (ax rs) r (n ^ (varsOf r).length) s).2=false->jT n L (ax rs) r (n ^ (varsOf r).length) s=s:=fun s r=>NI;have h1:((R,false):uv×Bool)=((qD n L (ax rs) rs (R,false)).1,false):=j4 (st:=fun s:uv×Bool=>s) hq rs (R,false) h0;have hR:=(congrArg Prod.fst h1).symm;refine ⟨hR,fun r hr vs ha gd=>?_⟩;rw [hR] at h0;obtain ⟨l1,l2,hl,Vk⟩:=oZ (f:=fun s r=>jT n L (ax rs) r (n ^ (varsOf r).length) s) hr ((R,false):uv×Bool);unfold qD at h0;rw [Vk] at h0;have h2:=j4 (st:=fun s:uv×Bool=>s) hq l2 _ h0;have h3:=j4 (st:=fun s:uv×Bool=>s) hq [r] (l1.foldl (fun s r=>jT n L (ax rs) r (n ^ (varsOf r).length) s) (R,false)) (T:=R) (by simpa using h2);replace h2:jT n L (ax rs) r (n ^ (varsOf r).length) (l1.foldl (fun s r=>jT n L (ax rs) r (n ^ (varsOf r).length) s) (R,false))=(R,false):=h2
 replace h3:l1.foldl (fun s r=>jT n L (ax rs) r (n ^ (varsOf r).length) s) ((R,false):uv×Bool)=(R,false):=h3;rw [h3] at h2;obtain ⟨i,hi,rfl⟩:=GX n1 ha
 have key:∀ j,j<=n ^ (varsOf r).length->jT n L (ax rs) r j (R,false)=(R,false):=fun j hj=>by
  unfold jT at h2 ⊢;rw [range_split hj,foldl_append] at h2;exact j4 (st:=fun s:uv×Bool=>s) (f:=fun s i=>sg n L (ax rs) r s (cU n (varsOf r).length i)) (fun a b=>DE) _ _ h2
 have a1:=key i (by omega);have a2:=key (i+1) (by omega);rw [vm,a1] at a2;unfold sg at a2;rw [if_pos gd] at a2;split at a2
 ·exact absurd (congrArg Prod.snd a2) (by simp)
 ·rename_i hc;exact Nat.not_lt.1 hc
theorem Tb{s':uv×Bool}(h:s.1=s'.1):(sg n L hs r s vs).1=(sg n L hs r s' vs).1:=by
 unfold sg;rw [h];split
 ·split
  ·rfl
  ·exact h
 ·exact h
theorem JU{hs:List bQ}{r:aR}(s:uv×Bool):∀ m,(jT n L hs r m s).1=(jT n L hs r m (s.1,false)).1
 |0=>rfl
 |m+1=>by rw [vm,vm];exact Tb (JU s m)
def IC(ks:List (bQ×List Int))(R:uv):Nat:=(ks.map fun k=>R k.1 k.2).sum
structure Lo (n:Nat) (L:Lk) (rs:List aR) (ks:List (bQ×List Int)) (R0:uv) (s:uv×Bool):Prop where
 ok:S1 n L rs s.1
 le:IC ks s.1<=IC ks R0
 lt:s.2=true->IC ks s.1<IC ks R0
theorem P4{ks:List (bQ×List Int)}(hr:r ∈ rs)(ha:mX n r vs)(Jj:(r.name,aM vs (placesOf (varsOf r) r.args.l)) ∈ ks)(q:Lo n L rs ks R0 s):Lo n L rs ks R0 (sg n L (ax rs) r s vs):=by
 unfold sg;split
 ·rename_i gd;split
  ·rename_i hc
   have eM:IC ks (BC s.1 r.name (aM vs (placesOf (varsOf r) r.args.l)) (CM s.1 (ax rs) r vs))<IC ks s.1:=by
    refine Ak (t:=(r.name,aM vs (placesOf (varsOf r) r.args.l))) ?_ (fun k _=>?_) Jj
    ·show BC _ _ _ _ _ _<_;unfold BC;rw [if_pos ⟨rfl,rfl⟩];exact hc
    ·show BC _ _ _ _ _ _<=_;unfold BC;by_cases e:k.1=r.name/\k.2=aM vs (placesOf (varsOf r) r.args.l)
     ·rw [if_pos e,e.1,e.2];exact Nat.le_of_lt hc
     ·rw [if_neg e];exact dK _
   have:=q.le;exact ⟨q.ok.put hr ha gd,by show IC ks (BC _ _ _ _)<=_;omega,fun _=>by show IC ks (BC _ _ _ _)<_;omega⟩
  ·exact q
 ·exact q
theorem Al(n1:1<=n)(hr:r ∈ rs){m:Nat}(hm:m<=n ^ (varsOf r).length)(q:Lo n L rs (kL n rs) R0 s):Lo n L rs (kL n rs) R0 (jT n L (ax rs) r m s):=by
 unfold jT;refine eE (P:=fun s=>Lo n L rs (kL n rs) R0 s) q fun s i hi q=>?_;have ha:=xL (r:=r) n1 (show i<n ^ (varsOf r).length by have:=mem_range.1 hi;omega);exact P4 hr ha (DD n1 hr ha) q
theorem Hq(n1:1<=n){qs:List aR}(Ek:∀ r ∈ qs,r ∈ rs)(q:Lo n L rs (kL n rs) R0 s):Lo n L rs (kL n rs) R0 (qD n L (ax rs) qs s):=by
 unfold qD;exact eE (P:=fun s=>Lo n L rs (kL n rs) R0 s) q fun s r hr q=>Al n1 (Ek r hr) (dK _) q
theorem S1.top(n:Nat)(L:Lk)(rs:List aR):S1 n L rs (fun _ _=>kz+1):=⟨fun _ _=>dK _,fun _ _ h=>absurd h (by omega)⟩
end
abbrev Tc:=Nat×List Int
def zm(p:Tc):AV:=.slice p.1 0 p.2.length 1
structure alm (n:Nat) (rs:List aR) (df:List bQ) (R:uv) (rows:List Tc):Prop where
 len:rows.length=df.length
 at_:∀ (i:Nat) (nm:bQ),df[i]?=some nm->∃ p:Tc,rows[i]?=some p/\p.2.length=n ^ jq rs nm/\∀ k:Nat,k<n ^ jq rs nm->p.2[k]?=some (R nm (cU n (jq rs nm) k):Int)
structure aln (OB lo hi:Nat) (rows:List Tc) (h:ag):Prop where
 ob:h.get OB=some (.cells (rows.map zm))
 low:OB<lo
 cell:∀ p ∈ rows,lo<=p.1/\p.1<hi/\h.get p.1=some (.cells (p.2.map iv))
 inj:(rows.map (·.1)).Nodup
def nR(n:Nat)(rs:List aR)(df:List bQ)(OB lo hi:Nat)(R:uv)(h:ag):Prop:=∃ rows,alm n rs df R rows/\aln OB lo hi rows h
theorem nR.eW{df:List bQ}{OB lo:Nat}{h':ag}(m:nR n rs df OB lo hi R h)(hb:∀ b,OB=b\/(lo<=b/\b<hi)->h'.get b=h.get b):nR n rs df OB lo hi R h':=by
 obtain ⟨rows,h1,h2⟩:=m;exact ⟨rows,h1,by rw [hb _ (.inl rfl)];exact h2.ob,h2.low,fun p hp=>by obtain ⟨a,b,c⟩:=h2.cell p hp;exact ⟨a,b,by rw [hb _ (.inr ⟨a,b⟩)];exact c⟩,h2.inj⟩
theorem NJ{α β:Type}{f:α->β}:∀ {l:List α},(l.map f).Nodup->∀ {i j:Nat} {a b:α},l[i]?=some a->l[j]?=some b->f a=f b->i=j
 |[],_,i,j,a,b,h,_,_=>by simp at h
 |c :: l,hn,i,j,a,b,ha,hb,he=>by
  rw [map_cons,nodup_cons] at hn
  cases i with
  |zero=>
   cases j with
   |zero=>rfl
   |succ j=>
    exfalso;simp only [getElem?_cons_zero,Option.some.injEq] at ha;rw [getElem?_cons_succ] at hb;subst ha;exact hn.1 (by rw [he];exact List.mem_map_of_mem (iA hb))
  |succ i=>
   cases j with
   |zero=>
    exfalso;simp only [getElem?_cons_zero,Option.some.injEq] at hb;rw [getElem?_cons_succ] at ha;subst hb;exact hn.1 (by rw [<- he];exact List.mem_map_of_mem (iA ha))
   |succ j=>
    rw [getElem?_cons_succ] at ha hb;rw [NJ hn.2 ha hb he]
theorem Td(n1:1<=n){t:List Int}(ht:iJ n t=true):cU n t.length (iy n t)=t:=by
 have eM:=lX ht;obtain ⟨h1,h2⟩:=m9 n1 eM;exact KU (jA _ _ _) h1 ht h2
theorem nR.spot(n1:1<=n){df:List bQ}{OB lo:Nat}(m:nR n rs df OB lo hi R h)(Ty:df.Nodup)(tj:df[i]?=some nm){t:List Int}(ht:iJ n t=true)(hl:t.length=jq rs nm) :
  ∃ b len,dg 1 (.slice OB 0 df.length 1) (.int .i64 (i:Int))=some (.ptr OB i)/\ah none (.ptr OB i) h=some (.slice b 0 len 1)/\dg 1 (.slice b 0 len 1) (.int .i64 ((iy n t:Nat):Int))=some (.ptr b (iy n t))/\ah none (.ptr b (iy n t)) h=some (.int .i64 (R nm t:Int))/\lo<=b/\b<hi /\
   ∀ w:Nat,∃ cs,bh 1 (.ptr b (iy n t)) (.int .i64 (w:Int)) h=some (h.set b (.cells cs))/\nR n rs df OB lo hi (BC R nm t w) (h.set b (.cells cs)):=by
 obtain ⟨rows,hR,hH⟩:=m;obtain ⟨p,hp,mM,UJ⟩:=hR.at_ i nm tj;obtain ⟨c1,c2,c3⟩:=hH.cell p (iA hp);have Lx:i<df.length:=(oB.1 tj).1;have sj:=lX ht;rw [hl] at sj;have abY:iy n t<p.2.length:=by rw [mM];exact sj
 have htt:=Td n1 ht;rw [hl] at htt;have hw:=UJ _ sj;rw [htt] at hw;have SN:=hH.low;refine ⟨p.1,p.2.length,kF Lx,?_,kF abY,?_,c1,c2,fun w=>⟨(p.2.set (iy n t) (w:Int)).map iv,pR c3 abY,?_⟩⟩
 ·rw [ai hH.ob,nJ,getElem?_map,hp];rfl
 ·rw [ai c3,nJ,getElem?_map,hw];rfl
 have Lq:i<rows.length:=by rw [hR.len];exact Lx
 refine ⟨rows.set i (p.1,p.2.set (iy n t) (w:Int)),⟨by rw [length_set];exact hR.len,fun j KQ hj=>?_⟩,?_,SN,fun q hq=>?_,?_⟩
 ·by_cases e:i=j
  ·subst e;rw [tj] at hj;obtain rfl:=Option.some.inj hj;refine ⟨_,by rw [getElem?_set,if_pos rfl,if_pos Lq],by simp only [length_set];exact mM,fun k hk=>?_⟩;simp only;rw [getElem?_set];unfold BC;by_cases e2:iy n t=k
   ·rw [if_pos e2,if_pos abY,if_pos ⟨rfl,by rw [<- e2];exact htt⟩]
   ·rw [if_neg e2,if_neg,UJ k hk];rintro ⟨_,e3⟩;exact e2 (by rw [<- e3];exact (m9 n1 hk).2)
  ·obtain ⟨q,h1,h2,h3⟩:=hR.at_ j KQ hj;refine ⟨q,by rw [getElem?_set,if_neg e];exact h1,h2,fun k hk=>?_⟩;rw [h3 k hk];unfold BC;rw [if_neg];rintro ⟨e3,_⟩;subst e3;exact e (kV Ty tj hj)
 ·rw [ag.aP,if_neg (by omega),hH.ob,map_set];congr 2;have:zm (p.1,p.2.set (iy n t) (w:Int))=zm p:=by unfold zm;simp
  rw [this];refine (ext_getElem? fun j=>?_);rw [getElem?_set];by_cases e:i=j
  ·subst e;rw [if_pos rfl,if_pos (by simpa using Lq),getElem?_map,hp];rfl
  ·rw [if_neg e]
 ·obtain ⟨j,hj,hq⟩:=getElem_of_mem hq;have oS:(rows.set i (p.1,p.2.set (iy n t) (w:Int)))[j]?=some q:=by rw [ec hj,hq]
  rw [getElem?_set] at oS;by_cases e:i=j
  ·subst e;rw [if_pos rfl,if_pos Lq] at oS;obtain rfl:=Option.some.inj oS;exact ⟨c1,c2,by rw [ag.aP,if_pos rfl]⟩
  ·rw [if_neg e] at oS;obtain ⟨d1,d2,d3⟩:=hH.cell q (iA oS);refine ⟨d1,d2,?_⟩;rw [ag.aP,if_neg fun e3=>e (NJ hH.inj hp oS e3.symm)];exact d3
 ·rw [map_set]
  have:(rows.map (·.1)).set i p.1=rows.map (·.1):=by
   refine (ext_getElem? fun j=>?_);rw [getElem?_set];by_cases e:i=j
   ·subst e;rw [if_pos rfl,if_pos (by simpa using Lq),getElem?_map,hp];rfl
   ·rw [if_neg e]
  rw [this];exact hH.inj
theorem V1(n:Nat):jL [.au] n=replicate n .au:=by
 induction n with
 |zero=>rfl
 |succ n ih=>rw [jL,ih];rfl
theorem Te(hn:n<=1000000)(h:ag):fo 1 24 [.au] (.int .i64 (n:Int)) (.int .i64 (n:Int)) h=some (.slice h.next 0 n 1,h.alloc (.cells (replicate n .au))):=by
 have:24*((n:Int))<=140737488355328:=by omega
 simp [fo,zw,this,V1]
theorem Zl(m w:Nat):tL false (.int .i64 ((m:Int)+(w:Int))) [.int .i64 20001]=some (.int .i64 ((min (m+w) 20001:Nat):Int)):=by
 simp only [tL,J2,if_true,false_eq_true,if_false];congr 2;by_cases h:(20001:Int)<(m:Int)+(w:Int)
 ·rw [if_pos h];omega
 ·rw [if_neg h];omega
theorem V2{α:Type}{A C:List α}{c v:α}(h:A.length=i):(A++c :: C).set i v=A++v :: C:=by subst h;exact Rc A C c v
theorem V3{α:Type}{A C:List α}{c:α}(h:A.length=i):(A++c :: C)[i]?=some c:=by subst h;simp
theorem Er(n1:1<=n)(hf:r.kH)(hk:(varsOf r).length<=12)(fh:all.l=varsOf r)(BH:mX n r vs){x:Sl iV}(hx:kf n r x.l)(hV:h.get V=some (.cells (vs.map iv))){K:Out->ag->Bool}
  (hK:K (.ret (.bool (iz n (cA x.l) r vs))) h=true):Sem TP 65 [.agg (aO r),an encS 1 all,.slice V 0 vs.length 1,an jC 3 x,.int .i64 (n:Int)] h K:=
 Sem.MH rfl (dr n1 hf hk fh (vs:=some vs) BH hx (h:=ag.empty) (K:=qm (.bool (iz n (cA x.l) r vs))) (c8 rfl))
  (kD.cons (.dP (by simpa [AV.pure] using dW r)) (kD.cons (.dP (bI jk _)) (kD.cons (og hV) (kD.cons (.dP (bI vg _)) (kD.cons (.scalar _ rfl) .nil))))) hK
theorem Tf{x:Sl aR}(hr:x.l[j]?=some r):ah none (.dI (x.l.flatMap aO) (j*3+1)) h=some (an encS 1 r.args):=fE (enc:=aO) ei hr (by omega:1<3)
theorem JV{x:Sl aR}(hr:x.l[j]?=some r):ah none (.dI (x.l.flatMap aO) (j*3+2)) h=some (an bR 4 r.body):=fE (enc:=aO) ei hr (by omega:2<3)
structure vo (rules:Sl aR) (nm:bQ) (t:Sl Int) (x:Sl iV) (d:Sl bQ) (e:Env):Prop where
 e0:e 0=an aO 3 rules
 e2:e 2 = .str nm
 e3:e 3=an encI 1 t
 e5:e 5 = .ptr 0 0
 e9:e 9=an jC 3 x
 jH:e 10=an encS 1 d
 jX:e 11 = .slice 1 0 d.l.length 1
structure yU (n:Nat) (rules:Sl aR) (out:eG) (x:Sl iV) (d:Sl bQ) (m:fy):Prop where
 n1:1<=n
 ov:n<=64
 qd:rules.l.length<=60
 tC:∀ r ∈ rules.l,r.body.l.length<=20
 kH:∀ r ∈ rules.l,r.kH
 Bn:∀ r ∈ rules.l,(varsOf r).length<=12
 a12:∀ r ∈ rules.l,r.args.l.length<=12
 go:dM rules.l []=some m
 hn:out.size=(n:Int)
 fit:∀ r ∈ rules.l,kf n r x.l
 pow:∀ r ∈ rules.l,n ^ r.args.l.length<=4096
 df:d.l=dG rules.l
theorem P7(rs:List aR):(dG rs).Nodup:=by
 have:=pW rs;unfold Bc at this;refine this.imp fun {a b} h e=>?_;rw [e,yu] at h;cases h
section
variable {n:Nat} {rules:Sl aR} {out:eG} {x:Sl iV} {d:Sl bQ} {m:fy} {nm:bQ} {t:Sl Int}
theorem yU.head(o:yU n rules out x d m){s:bQ}(h:s ∈ ax rules.l):jq rules.l s<=12/\n ^ jq rules.l s<=4096:=by
 obtain ⟨_,r,hr,_,ha⟩:=qS o.go h;rw [ha];exact ⟨o.a12 r hr,o.pow r hr⟩
theorem yU.dl(o:yU n rules out x d m):d.l.length<=60:=by
 rw [o.df];have:=mV rules.l;have:=o.qd;omega
theorem P8(o:yU n rules out x d m){e0:Env}(hE:vo rules nm t x d e0)(Cp:e0 12 = .int .i64 0)(g0:h.get 0=some (.cells (aB out)))(g1:h.get 1=some (.cells (replicate d.l.length .au)))(gn:h.next=2)
  (done:∀ e h',vo rules nm t x d e->nR n rules.l d.l 1 2 h'.next (fun _ _=>kz+1) h'->h'.get 0=some (.cells (aB out))->2<=h'.next->K (.exit 0) ⟨e,192,[],h'⟩=true) :
  bX (EV F.aN.L0) ⟨e0,192,[],h⟩ K=true:=by
 have YU:dw=140737488355328:=rfl;have Ct:=o.dl;have hN:d.l.length<=cu:=by unfold cu;omega
 have lz:∀ h':ag,h'.get 0=some (.cells (aB out))->ah none (.ptr 0 0) h'=some (.int .i64 (n:Int)):=fun h' hg=>by rw [ai hg,<- o.hn];rfl
 refine aG 0 d.l.length (zero_le _) (fun i e h'=>∃ rows:List Tc,rows.length=i/\(∀ (j:Nat) (s:bQ),(d.l.take i)[j]?=some s->∃ p:Tc,rows[j]?=some p/\p.2=replicate (n ^ jq rules.l s) 20001)/\h'.get 1=some (.cells (rows.map zm++replicate (d.l.length-i) .au)) /\
  (∀ p ∈ rows,2<=p.1/\p.1<h'.next/\h'.get p.1=some (.cells (p.2.map iv)))/\(rows.map (·.1)).Nodup/\h'.get 0=some (.cells (aB out))/\2<=h'.next/\vo rules nm t x d e/\e 12 = .int .i64 (i:Int)) ⟨[],rfl,fun j s hj=>(by rw [take_zero] at hj;cases hj),by simpa using g1,fun p hp=>(by cases hp),nodup_nil,g0,by omega,hE,Cp⟩ ?_ ?_
 ·rintro i e h' _ hi ⟨rows,Pa,yx,q1,hrc,xz,q0,qn,ry,oX⟩ K' hn hx hr hp;have hv:d.l[i]?=some d.l[i]:=ec hi;generalize d.l[i]=s at hv;have hs:s ∈ ax rules.l:=(dJ rules.l).1 (by rw [<- o.df];exact iA hv);obtain ⟨Tg,Kl⟩:=o.head hs;have YV:0<n ^ jq rules.l s:=Nat.pow_pos o.n1;rw [F.aN.aT];simp only [ry.jH,oX,aS,reduceAdd,reduceEqDiff,reduceIte,bl hi]
  have abZ:replicate (d.l.length-i) AV.au = .au :: replicate (d.l.length-(i+1)) .au:=by
   rw [show d.l.length-i=(d.l.length-(i+1))+1 by omega];rfl
  rw [abZ] at q1;have hml:(rows.map zm).length=i:=by rw [length_map];exact Pa
  refine aG 0 (n ^ jq rules.l s) (zero_le _) (fun k e h2=>∃ a,Own encI 1 h'.next h2 a (replicate k (20001:Int))/\h2.get 1=some (.cells (rows.map zm++a :: replicate (d.l.length-(i+1)) .au))/\(∀ c,c<h'.next->c≠1->h2.get c=h'.get c)/\h'.next<=h2.next /\
   vo rules nm t x d e/\e 12 = .int .i64 (i:Int)/\e 13 = .int .i64 (k:Int)) ⟨.au,.nil,q1,fun _ _ _=>rfl,dK _,⟨ry.e0,ry.e2,ry.e3,ry.e5,ry.e9,ry.jH,ry.jX⟩,oX,rfl⟩ ?_ ?_
  ·rintro k e h2 _ hk ⟨a,ow,w1,wf,wn,ta,f12,f13⟩ K2 qM iu vL Il;have w0:h2.get 0=some (.cells (aB out)):=by rw [wf 0 (by omega) (by omega)];exact q0
   rw [F.aN.eC];simp only [ta.e0,ta.e5,ta.jH,ta.jX,f12,f13,aS,reduceAdd,reduceEqDiff,reduceIte,lz h2 w0,aU d hi,jz hv];refine aj (dZ o.qd o.tC ?_);rw [Bz o.go hs];simp only [aS,reduceAdd,reduceEqDiff,reduceIte,lz h2 w0,AV.beq_refl,Bool.and_self,Bool.and_true,if_true];refine aj (gK o.n1 o.ov (show jq rules.l s<=cu by unfold cu;omega) fun v RK _=>?_);obtain rfl:=RK Kl;have la:ah none (.ptr 1 i) h2=some a:=by rw [ai w1,nJ];exact V3 hml
   obtain ⟨a',h3,p1,p2,p3,p4,p5,p6⟩:=ow.push rJ Gu wn (bytes:=8) (by rw [YU,length_replicate];omega) (20001:Int)
   have w3:h3.get 1=some (.cells (rows.map zm++a :: replicate (d.l.length-(i+1)) .au)):=by
    rw [p3 1 (by omega) fun e=>by have:=ow.ge e;omega];exact w1
   obtain ⟨oa1,Zj⟩:=qR p2
   have st:bh 1 (.ptr 1 i) a' h3=some (h3.set 1 (.cells (rows.map zm++a' :: replicate (d.l.length-(i+1)) .au))):=by
    rw [cJ (n:=1) w3 (by rw [Zj];rfl) (by rw [Zj];exact oa1) (by simp;omega),Zj];show some (h3.set 1 (.cells ((rows.map zm++a :: replicate (d.l.length-(i+1)) .au).set i a')))=_;rw [V2 hml]
   simp only [aS,reduceAdd,reduceEqDiff,reduceIte,bl hk,kF hi,la,QJ,p1,st,aK hk (show n ^ jq rules.l s<=cu by unfold cu;omega),f12,f13,ta.jX];refine qM _ _ ⟨a',?_,by rw [ag.aP,if_pos rfl],fun c c1 c2=>?_,by rw [ag.bq];omega,⟨ta.e0,ta.e2,ta.e3,ta.e5,ta.e9,ta.jH,ta.jX⟩,f12,rfl⟩
   ·rw [replicate_succ'];exact p2.agree (fun b e=>by rw [ag.aP,if_neg (by have:=p2.ge e;omega)]) (by rw [ag.bq];exact dK _)
   ·rw [ag.aP,if_neg c2,p3 c (by omega) fun e=>by have:=ow.ge e;omega];exact wf c c1 c2
  ·rintro e h2 ⟨a,ow,w1,wf,wn,ta,f12,f13⟩ K2 iu;have w0:h2.get 0=some (.cells (aB out)):=by rw [wf 0 (by omega) (by omega)];exact q0
   rw [F.aN.eC];simp only [ta.e0,ta.e5,ta.jH,ta.jX,f12,f13,aS,reduceAdd,reduceEqDiff,reduceIte,lz h2 w0,aU d hi,jz hv];refine aj (dZ o.qd o.tC ?_);rw [Bz o.go hs];simp only [aS,reduceAdd,reduceEqDiff,reduceIte,lz h2 w0,AV.beq_refl,Bool.and_self,Bool.and_true,if_true];refine aj (gK o.n1 o.ov (show jq rules.l s<=cu by unfold cu;omega) fun v RK _=>?_);obtain rfl:=RK Kl;simp only [aS,reduceAdd,reduceEqDiff,reduceIte,aX];rw [iu,F.aN.cZ];simp only [bg,reduceEqDiff,reduceIte,f12,aK hi hN,aq];generalize hl:replicate (n ^ jq rules.l s) (20001:Int)=l at ow;have Sb:l.length=n ^ jq rules.l s:=by rw [<- hl];simp
   cases ow with
   |nil=>simp at Sb;omega
   |row b l b1 b2 b3=>
   refine hn _ _ ⟨rows++[(b,l)],by simp [Pa],fun j s' hj=>?_,?_,fun p hp=>?_,?_,w0,by omega,⟨ta.e0,ta.e2,ta.e3,ta.e5,ta.e9,ta.jH,ta.jX⟩,rfl⟩
   ·rw [take_add_one,hv] at hj;by_cases hji:j<i
    ·rw [getElem?_append_left (by simp;omega)] at hj;obtain ⟨p,h1,h2⟩:=yx j s' hj;exact ⟨p,by rw [getElem?_append_left (by omega)];exact h1,h2⟩
    ·have Oy:=(oB.1 hj).1;simp at Oy;obtain rfl:j=i:=by omega
     rw [getElem?_append_right (by simp;omega)] at hj;simp at hj;rw [show j-min j d.l.length=0 by omega] at hj;simp at hj;subst hj;exact ⟨(b,l),by rw [getElem?_append_right (by omega),Pa];simp,hl.symm⟩
   ·rw [w1,map_append,append_assoc];rfl
   ·rcases mem_append.1 hp with hp|hp
    ·obtain ⟨c1,c2,c3⟩:=hrc p hp;exact ⟨c1,by omega,by rw [wf _ c2 (by omega)];exact c3⟩
    ·rw [mem_singleton] at hp;subst hp;exact ⟨by show 2<=b;omega,b2,by rw [tB];exact b3⟩
   ·rw [map_append];refine nodup_append.2 ⟨xz,by simp,fun y hy z hz e=>?_⟩;simp only [map_cons,map_nil,mem_singleton] at hz;obtain ⟨p,hp,rfl⟩:=mem_map.1 hy;have:=(hrc p hp).2.1;omega
 ·rintro e h' ⟨rows,Pa,yx,q1,hrc,xz,q0,qn,ry,oX⟩ K' hx;rw [F.aN.aT];simp only [ry.jH,oX,aS,reduceAdd,reduceEqDiff,reduceIte,aX];rw [hx];refine done _ _ ⟨ry.e0,ry.e2,ry.e3,ry.e5,ry.e9,ry.jH,ry.jX⟩ ⟨rows,⟨Pa,fun i s hi=>?_⟩,by simpa using q1,by omega,hrc,xz⟩ q0 qn;obtain ⟨p,h1,h2⟩:=yx i s (by rw [kB (dK _)];exact hi);refine ⟨p,h1,by rw [h2];simp,fun k hk=>?_⟩;rw [h2,getElem?_replicate,if_pos hk];rfl
end
section
variable {n:Nat} {rules:Sl aR} {out:eG} {x:Sl iV} {d:Sl bQ} {m:fy} {nm:bQ} {t:Sl Int}
theorem yU.at_(o:yU n rules out x d m){s:bQ}(h:s ∈ ax rules.l):∃ i:Nat,d.l[i]?=some s:=by
 have h1:s ∈ d.l:=by rw [o.df];exact (dJ rules.l).2 h
 obtain ⟨i,hi,he⟩:=getElem_of_mem h1;exact ⟨i,by rw [ec hi,he]⟩
theorem yU.nd(o:yU n rules out x d m):d.l.Nodup:=by rw [o.df];exact P7 _
theorem P9(o:yU n rules out x d m)(hr:r ∈ rules.l){c:dD}(hc:c ∈ r.body.l)(ha:fQ (ax rules.l) c=true):jq rules.l c.name=c.args.l.length:=by
 have hk:c.kind=0:=by
  unfold fQ at ha;simp only [and_eq_true,decide_eq_true_eq] at ha;exact ha.2.2
 have vt:c.name ∈ ax rules.l:=by
  unfold fQ at ha;simp only [and_eq_true,decide_eq_true_eq] at ha;exact ha.1
 obtain ⟨_,r',yY,ab0,ab1⟩:=qS o.go vt;have h5:((r'.args.l.length:Nat):Int)=c.args.l.length:=l9 o.go (kW yY) (by rw [ab0];exact ri hr hc hk);rw [ab1];omega
theorem vo.of{e e':Env}(hE:vo rules nm t x d e)(h:∀ i,i<=11->e' i=e i):vo rules nm t x d e':=
 ⟨by rw [h 0 (by omega)];exact hE.e0,by rw [h 2 (by omega)];exact hE.e2,by rw [h 3 (by omega)];exact hE.e3,by rw [h 5 (by omega)];exact hE.e5,by rw [h 9 (by omega)];exact hE.e9,by rw [h 10 (by omega)];exact hE.jH,by rw [h 11 (by omega)];exact hE.jX⟩
set_option maxHeartbeats 4000000 in
theorem Th(o:yU n rules out x d m)(hr:rules.l[i]?=some r)(ha:mX n r vs)(fh:all.l=varsOf r)(hRb:∀ a b,R a b<=kz+1)(h2i:2<=hi)(hV:hi<=V){e0:Env}(hE:vo rules nm t x d e0)(hm:nR n rules.l d.l 1 2 hi R h)(mN:hi<=h.next)(g0:h.get 0=some (.cells (aB out)))(gV:h.get V=some (.cells (vs.map iv)))(Ls:V<h.next)
  {fl:AV} (q14:e0 14=fl) (q15:e0 15 = .int .i64 (i:Int)) (q16:e0 16=an encS 1 all) (YO:e0 17 = .slice V 0 vs.length 1) (q19:e0 19 = .int .i64 1) (q20:e0 20 = .int .i64 0)
  (done:∀ e h',vo rules nm t x d e->bG h h'->e 14=fl->e 15 = .int .i64 (i:Int)->e 16=an encS 1 all->e 17 = .slice V 0 vs.length 1->e 19 = .int .i64 (CM R (ax rules.l) r vs:Int)->K (.exit 10) ⟨e,192,[],h'⟩=true) :
  bX (EV F.aN.L5) ⟨e0,192,[],h⟩ K=true:=by
 have lD:=iA hr;have Lx:i<rules.l.length:=(oB.1 hr).1;have hf:=o.kH r lD;have pH:r.body.l.length<=cu:=by have:=hf.2.1;unfold cu;omega
 have Ct:=o.dl
 refine aG 0 r.body.l.length (zero_le _) (fun j e h'=>∃ w:Nat,w=min (1+jo (ax rules.l) (uk R r vs) (r.body.l.take j)) (kz+1)/\bG h h'/\vo rules nm t x d e/\e 14=fl/\e 15 = .int .i64 (i:Int)/\e 16=an encS 1 all/\e 17 = .slice V 0 vs.length 1/\e 19 = .int .i64 (w:Int)/\e 20 = .int .i64 (j:Int))
  ⟨1,by simp [jo],bG.refl _,hE,q14,q15,q16,YO,q19,q20⟩ ?_ ?_
 ·rintro j e h' _ hj ⟨w,hw,hx,ry,m8,lE,rR,mW,Jz,Be⟩ K' hn S0 yx hp;have hc:r.body.l[j]?=some r.body.l[j]:=ec hj;generalize r.body.l[j]=c at hc;have mu:=iA hc;have OY:=hx.next
  obtain ⟨H,EM,d1,do1,dn1⟩:=cR (h:=h') (zs:=[.int .i64 0,.bool false,.str [],.au]) (cs:=bR c) (n:=4) rfl rfl (gQ c);have x1:bG h' H:=⟨by omega,fun b hb=>do1 b (by omega)⟩
  have xH:=hx.trans x1;have lk:ah none (.ptr h'.next 0) H=some (.int .i64 c.kind):=by rw [ai d1];rfl
  have lg:ah none (.ptr h'.next 1) H=some (.bool c.neg):=by rw [ai d1];rfl
  have ln:ah none (.ptr h'.next 2) H=some (.str c.name):=by rw [ai d1];rfl
  have la:ah none (.ptr h'.next 3) H=some (an encS 1 c.args):=by rw [ai d1];rfl
  have p0:H.get 0=some (.cells (aB out)):=by rw [xH.get _ (by omega)];exact g0
  have lz:ah none (.ptr 0 0) H=some (.int .i64 (n:Int)):=by rw [ai p0,<- o.hn];rfl
  have pV:H.get V=some (.cells (vs.map iv)):=by rw [xH.get _ Ls];exact gV
  have pm:nR n rules.l d.l 1 2 hi R H:=hm.eW fun b hb=>xH.get b (by rcases hb with rfl|hb<;>omega);have ej:=JR (hs:=ax rules.l) (f:=uk R r vs) hc;have hb3:∀ hh,ah none (.dI (rules.l.flatMap aO) (i*3+2)) hh=some (an bR 4 r.body):=fun hh=>JV hr;rw [F.aN.Mv];simp only [ry.e0,ry.jH,ry.jX,ry.e5,lE,rR,mW,Jz,Be,aS,reduceAdd,reduceEqDiff,reduceIte,aU rules Lx,hb3,bl hj,aU r.body hj,cX gh hc,EM,ln]
  have skip:fQ (ax rules.l) c=false->∀ e':Env,vo rules nm t x d e'->e' 14=fl->e' 15 = .int .i64 (i:Int)->e' 16=an encS 1 all->e' 17 = .slice V 0 vs.length 1->e' 19 = .int .i64 (w:Int)->e' 20 = .int .i64 ((j+1:Nat):Int)->K' .normal ⟨e',192,[],H⟩=true:=fun iQ e' ta f14 f15 f16 f17 f19 f20=>by
   rw [iQ,if_neg (by simp),Nat.add_zero] at ej;exact hn _ _ ⟨w,by rw [ej];exact hw,xH,ta,f14,f15,f16,f17,f19,f20⟩
  refine aj (dQ (show d.l.length<=cu by unfold cu;omega) (fun bi Rh=>?_) fun pX=>?_)
  ·have vt:c.name ∈ ax rules.l:=(dJ rules.l).1 (by rw [<- o.df];exact iA Rh);simp only [aS,reduceAdd,reduceEqDiff,reduceIte,lk,ct];by_cases k0:c.kind=0
   case neg=>
    simp only [ep k0,aE,Be,aK hj pH,aq];refine skip ?_ _ (ry.of fun i hi=>?_) m8 lE rR mW Jz rfl
    ·unfold fQ;simp [k0]
    ·simp only [bg];repeat rw [if_neg (by omega)]
   simp only [ey k0,aF,lg,aS,reduceAdd,reduceEqDiff,reduceIte]
   cases Yq:c.neg with
   |true=>
    simp only [Bool.not_true,aE,Be,aK hj pH,aq];refine skip ?_ _ (ry.of fun i hi=>?_) m8 lE rR mW Jz rfl
    ·unfold fQ;simp [Yq]
    ·simp only [bg];repeat rw [if_neg (by omega)]
   |false=>
   have iQ:fQ (ax rules.l) c=true:=by unfold fQ;simp [k0,Yq,vt]
   rw [iQ,if_pos rfl] at ej;have zk:=P9 o lD mu iQ;obtain ⟨Tg,Kl⟩:=o.head vt;have mM:∀ p ∈ aQ r c,p<vs.length:=by rw [ha.1];exact hG (jm mu)
   have BB:(aQ r c).length=c.args.l.length:=by unfold aQ placesOf;simp
   have tI:=fM vs (aQ r c);have hinv:=iD ha.2 mM;have hlen:(aM vs (aQ r c)).length=jq rules.l c.name:=by rw [tI,BB,zk]
   obtain ⟨b,len,s1,s2,s3,s4,s5,s6,_⟩:=pm.spot o.n1 o.nd Rh hinv hlen;have we:=fun {K} hk=>r6 (all:=all) (xs:=c.args) (vs:=vs) (V:=V) (h:=H) (K:=K) (by rw [fh];exact pe r) (by rw [fh];have:=o.Bn r lD;unfold cu;omega) (by have:=hf.2.2 c mu;omega) (by rw [fh];exact jm mu) (by rw [fh];exact ha.1) pV hk;simp only [Bool.not_false,aF,aS,reduceAdd,reduceEqDiff,reduceIte,ey (show (0:Int)<=(bi:Int) by omega),ry.e5,ry.jX,rR,mW,s1,s2,lz,la];refine aj (we ?_);simp only [aS,reduceAdd,reduceEqDiff,reduceIte,lz,s2,AV.beq_refl,Bool.and_self,Bool.and_true,if_true];have hpc:placesOf all.l c.args.l=aQ r c:=by rw [fh];rfl
   rw [hpc];refine aj (fV o.n1 (x:=some (aM vs (aQ r c))) hlen Tg Kl hinv ?_);rw [show iy n (Sl.l (some (aM vs (aQ r c))))=iy n (aM vs (aQ r c)) from rfl];have hwR:R c.name (aM vs (aQ r c))=uk R r vs c:=rfl;rw [hwR] at s4;have hw1:w<=20001:=by rw [hw];exact Nat.min_le_right _ _
   simp only [aS,reduceAdd,reduceEqDiff,reduceIte,s2,AV.beq_refl,Bool.and_self,Bool.and_true,if_true,s3,s4,Jz];have j8:uk R r vs c<=20001:=hRb _ _;simp only [je (a:=(w:Int)) (b:=(uk R r vs c:Int)) (by omega) (by omega),aq,Zl,Be,aK hj pH];refine hn _ _ ⟨min (w+uk R r vs c) 20001,?_,xH,ry.of fun i hi=>?_,m8,lE,rR,mW,rfl,rfl⟩
   ·rw [ej,hw];show min (min _ 20001+_) 20001=min _ 20001;omega
   ·simp only [bg];repeat rw [if_neg (by omega)]
  ·have iQ:fQ (ax rules.l) c=false:=by
    unfold fQ;rw [ep (fun hh=>pX (by rw [o.df];exact (dJ rules.l).2 hh)),Bool.false_and]
   simp only [aS,reduceAdd,reduceEqDiff,reduceIte,lk,ct];by_cases k0:c.kind=0
   case neg=>
    simp only [ep k0,aE,Be,aK hj pH,aq];refine skip iQ _ (ry.of fun i hi=>?_) m8 lE rR mW Jz rfl;simp only [bg];repeat rw [if_neg (by omega)]
   simp only [ey k0,aF,lg,aS,reduceAdd,reduceEqDiff,reduceIte]
   cases Yq:c.neg with
   |true=>
    simp only [Bool.not_true,aE,Be,aK hj pH,aq];refine skip iQ _ (ry.of fun i hi=>?_) m8 lE rR mW Jz rfl;simp only [bg];repeat rw [if_neg (by omega)]
   |false=>
    simp only [Bool.not_false,aF,aS,reduceAdd,reduceEqDiff,reduceIte,show decide ((0:Int)<=-1)=false from rfl,aE,Be,aK hj pH,aq];refine skip iQ _ (ry.of fun i hi=>?_) m8 lE rR mW Jz rfl;simp only [bg];repeat rw [if_neg (by omega)]
 ·rintro e h' ⟨w,hw,hx,ry,m8,lE,rR,mW,Jz,Be⟩ K' S0;have hb3:∀ hh,ah none (.dI (rules.l.flatMap aO) (i*3+2)) hh=some (an bR 4 r.body):=fun hh=>JV hr;rw [F.aN.Mv];simp only [ry.e0,lE,Be,aS,reduceAdd,reduceEqDiff,reduceIte,aU rules Lx,hb3,aX];rw [S0];rw [kB (dK _)] at hw;refine done _ h' (ry.of fun i hi=>?_) hx m8 lE rR mW ?_
  ·simp only [bg];repeat rw [if_neg (by omega)]
  ·show e 19=_;rw [Jz,hw];rfl
end
section
variable {n:Nat} {rules:Sl aR} {out:eG} {x:Sl iV} {d:Sl bQ} {m:fy} {nm:bQ} {t:Sl Int}
set_option maxHeartbeats 4000000 in
theorem Qa(o:yU n rules out x d m)(hr:rules.l[i]?=some r){s0:uv×Bool}(fh:all.l=varsOf r)(hRb:Lo n (cA x.l) rules.l (kL n rules.l) (fun _ _=>kz+1) (s0.1,false))(h2i:2<=hi)(hV:hi<=V){e0:Env}(hE:vo rules nm t x d e0)(hm:nR n rules.l d.l 1 2 hi s0.1 h)(mN:hi<=h.next)(g0:h.get 0=some (.cells (aB out)))
  (gV:h.get V=some (.cells ((cU n (varsOf r).length 0).map iv))) (Ls:V<h.next) (q14:e0 14 = .bool s0.2) (q15:e0 15 = .int .i64 (i:Int)) (q16:e0 16=an encS 1 all) (YO:e0 17 = .slice V 0 (varsOf r).length 1) (q18:e0 18 = .bool true)
  (done:∀ e h',vo rules nm t x d e->nR n rules.l d.l 1 2 hi (jT n (cA x.l) (ax rules.l) r (n ^ (varsOf r).length) s0).1 h'->h'.get 0=some (.cells (aB out))->h.next<=h'.next->e 14 = .bool (jT n (cA x.l) (ax rules.l) r (n ^ (varsOf r).length) s0).2->e 15 = .int .i64 (i:Int)->K (.exit 8) ⟨e,192,[],h'⟩=true) :
  bX (EV F.aN.L4) ⟨e0,192,[],h⟩ K=true:=by
 have lD:=iA hr;have Lx:i<rules.l.length:=(oB.1 hr).1;have hf:=o.kH r lD;have xq:=o.Bn r lD;have Ct:=o.dl;have YV:0<n ^ (varsOf r).length:=Nat.pow_pos o.n1;have hra:∀ hh,ah none (.dI (rules.l.flatMap aO) (i*3+1)) hh=some (an encS 1 r.args):=fun hh=>Tf hr;have xz:∀ hh,ah none (.dI (rules.l.flatMap aO) (i*3)) hh=some (.str r.name):=fun hh=>CL hr hh;have hrw:∀ hh,ah (some 3) (.dI (rules.l.flatMap aO) (i*3)) hh=some (.agg (aO r)):=fun hh=>cX ei hr
 refine pU (fun mm e h'=>∃ (j:Nat) (more:Bool) (s:uv×Bool),s=jT n (cA x.l) (ax rules.l) r j s0/\vo rules nm t x d e/\nR n rules.l d.l 1 2 hi s.1 h'/\h'.get 0=some (.cells (aB out))/\h.next<=h'.next/\e 14 = .bool s.2/\e 15 = .int .i64 (i:Int)/\e 16=an encS 1 all/\e 17 = .slice V 0 (varsOf r).length 1/\e 18 = .bool more /\
  ((more=true/\j<n ^ (varsOf r).length/\h'.get V=some (.cells ((cU n (varsOf r).length j).map iv))/\mm=n ^ (varsOf r).length-j)\/(more=false/\j=n ^ (varsOf r).length/\mm=0))) _
  ⟨0,true,s0,rfl,hE,hm,g0,dK _,q14,q15,q16,YO,q18,.inl ⟨rfl,YV,gV,rfl⟩⟩ ?_
 rintro mm e h' ⟨j,more,s,hs,ry,oE,p0,oA,m8,lE,rR,mW,TA,hc⟩ K' hn hx yx;rw [F.aN.FT];simp only [TA,cF];rcases hc with ⟨rfl,hj,pV,K6⟩|⟨rfl,rfl,K6⟩
 case inr=>
  simp only [aE];rw [hx];rw [hs] at oE m8;refine done _ h' (ry.of fun i hi=>?_) oE p0 oA m8 lE;simp only [bg];repeat rw [if_neg (by omega)]
 have ha:mX n r (cU n (varsOf r).length j):=xL o.n1 hj;have YX:(cU n (varsOf r).length j).length=(varsOf r).length:=jA _ _ _;have lz:∀ hh:ag,hh.get 0=some (.cells (aB out))->ah none (.ptr 0 0) hh=some (.int .i64 (n:Int)):=fun hh hg=>by rw [ai hg,<- o.hn];rfl
 have hqj:=Al (L:=cA x.l) o.n1 lD (m:=j) (by omega) hRb
 have hRs:∀ a b,s.1 a b<=kz+1:=fun a b=>by
  have h1:=Al (L:=cA x.l) (R0:=fun _ _=>kz+1) o.n1 lD (m:=j) (by omega) hRb;have h2:(jT n (cA x.l) (ax rules.l) r j s0).1=(jT n (cA x.l) (ax rules.l) r j (s0.1,false)).1:=JU _ _;rw [hs,h2];exact h1.ok.le a b
 have gd:=fun {K} hk=>Er o.n1 hf xq fh ha (o.fit r lD) pV (h:=h') (K:=K) hk;rw [YX] at gd;have ej:sg n (cA x.l) (ax rules.l) r s (cU n (varsOf r).length j)=jT n (cA x.l) (ax rules.l) r (j+1) s0:=by rw [vm,<- hs]
 have Ti:∀ (s2:uv×Bool) (h2 h3:ag) (e':Env),s2=jT n (cA x.l) (ax rules.l) r (j+1) s0->nR n rules.l d.l 1 2 hi s2.1 h2->h2.get 0=some (.cells (aB out))->h.next<=h2.next->(∀ b,b≠V->h3.get b=h2.get b)->h3.next=h2.next->vo rules nm t x d e'->e' 14 = .bool s2.2->e' 15 = .int .i64 (i:Int)->e' 16=an encS 1 all->e' 17 = .slice V 0 (varsOf r).length 1 ->
   ((e' 18 = .bool true/\j+1<n ^ (varsOf r).length/\h3.get V=some (.cells ((cU n (varsOf r).length (j+1)).map iv)))\/(e' 18 = .bool false/\j+1=n ^ (varsOf r).length))->K' .normal ⟨e',192,[],h3⟩=true:=fun s2 h2 h3 e' qX HD hg2 qM hb sV ta f14 f15 f16 f17 hcc=>by
  have hm3:nR n rules.l d.l 1 2 hi s2.1 h3:=HD.eW fun b fY=>hb b (by rcases fY with rfl|fY<;>omega);have g3:h3.get 0=some (.cells (aB out)):=by rw [hb 0 (by omega)];exact hg2
  rcases hcc with ⟨f18,hj2,hv3⟩|⟨f18,hj2⟩
  ·exact hn (n ^ (varsOf r).length-(j+1)) _ _ (by omega) ⟨j+1,true,s2,qX,ta,hm3,g3,by omega,f14,f15,f16,f17,f18,.inl ⟨rfl,hj2,hv3,rfl⟩⟩
  ·exact hn 0 _ _ (by omega) ⟨j+1,false,s2,qX,ta,hm3,g3,by omega,f14,f15,f16,f17,f18,.inr ⟨rfl,hj2,rfl⟩⟩
 simp only [aF,ry.e0,ry.e5,ry.e9,lE,rR,mW,aS,reduceAdd,reduceEqDiff,reduceIte,aU rules Lx,hrw,lz h' p0];refine aj (gd ?_);simp only [aS,reduceAdd,reduceEqDiff,reduceIte];unfold sg at ej
 cases Wl:iz n (cA x.l) r (cU n (varsOf r).length j) with
 |false=>
  rw [Wl,if_neg (by simp)] at ej;simp only [Bool.not_false,aF,aS,reduceAdd,reduceEqDiff,reduceIte,ry.e5,mW,lz h' p0];refine aj (fK o.n1 o.ov xq hj pV (fun p h3 a1 a2 a3=>?_) fun p h3 a2 a3=>?_)
  ·simp only [aS,reduceAdd,reduceEqDiff,reduceIte];refine Ti s h' h3 _ ej oE p0 oA a2 a3 (ry.of fun i hi=>?_) m8 lE rR mW (.inl ⟨rfl,p,a1⟩);simp only [bg];repeat rw [if_neg (by omega)]
  ·simp only [aS,reduceAdd,reduceEqDiff,reduceIte];refine Ti s h' h3 _ ej oE p0 oA a2 a3 (ry.of fun i hi=>?_) m8 lE rR mW (.inr ⟨rfl,p⟩);simp only [bg];repeat rw [if_neg (by omega)]
 |true=>
 rw [Wl,if_pos rfl] at ej;simp only [Bool.not_true,aE];refine Th o hr ha fh hRs h2i hV (ry.of fun i hi=>?_) oE (by omega) p0 pV (by omega) (fl:=.bool s.2) m8 lE rR (by rw [YX];exact mW) rfl rfl fun e2 h2 ta iu f14 f15 f16 f17 f19=>?_
 ·simp only [bg];repeat rw [if_neg (by omega)]
 rw [YX] at f17;have OY:=iu.next
 have g2:h2.get 0=some (.cells (aB out)):=by rw [iu.get 0 (by omega)];exact p0
 have v2:h2.get V=some (.cells ((cU n (varsOf r).length j).map iv)):=by rw [iu.get V (by omega)];exact pV
 have m2:nR n rules.l d.l 1 2 hi s.1 h2:=oE.eW fun b hb=>iu.get b (by rcases hb with rfl|hb<;>omega);have vt:r.name ∈ ax rules.l:=List.mem_map_of_mem lD;obtain ⟨Tg,Kl⟩:=o.head vt;obtain ⟨bi,Rh⟩:=o.at_ vt;have mM:∀ p ∈ placesOf (varsOf r) r.args.l,p<(cU n (varsOf r).length j).length:=by rw [ha.1];exact hG jl
 have BB:(placesOf (varsOf r) r.args.l).length=r.args.l.length:=by unfold placesOf;simp
 have tI:=fM (cU n (varsOf r).length j) (placesOf (varsOf r) r.args.l);have hinv:=iD ha.2 mM;have zk:=GZ o.go lD;have hlen:(aM (cU n (varsOf r).length j) (placesOf (varsOf r) r.args.l)).length=jq rules.l r.name:=by rw [tI,BB,zk]
 obtain ⟨b,len,s1,s2,s3,s4,s5,s6,s7⟩:=m2.spot o.n1 o.nd Rh hinv hlen;have we:=fun {K} hk=>r6 (all:=all) (xs:=r.args) (vs:=cU n (varsOf r).length j) (V:=V) (h:=h2) (K:=K) (by rw [fh];exact pe r) (by rw [fh];unfold cu;omega) (by have:=hf.1;omega) (by rw [fh];exact jl) (by rw [fh];exact YX) v2 hk;rw [YX] at we;rw [F.aN.B7];simp only [ta.e0,ta.e5,ta.jH,ta.jX,f15,f16,f17,f19,aS,reduceAdd,reduceEqDiff,reduceIte,aU rules Lx,xz,hra,lz h2 g2];refine aj (dQ (show d.l.length<=cu by unfold cu;omega) (fun bj hbj=>?_) fun pX=>absurd (iA Rh) pX);obtain rfl:bj=bi:=kV o.nd hbj Rh;simp only [aS,reduceAdd,reduceEqDiff,reduceIte,hra,lz h2 g2,AV.beq_refl,Bool.and_self,Bool.and_true,if_true,f16,f17];refine aj (we ?_);rw [show placesOf all.l r.args.l=placesOf (varsOf r) r.args.l by rw [fh]];simp only [aS,reduceAdd,reduceEqDiff,reduceIte,lz h2 g2,AV.beq_refl,Bool.and_self,Bool.and_true,if_true]
 refine aj (fV o.n1 (x:=some (aM (cU n (varsOf r).length j) (placesOf (varsOf r) r.args.l))) hlen Tg Kl hinv ?_);rw [show iy n (Sl.l (some (aM (cU n (varsOf r).length j) (placesOf (varsOf r) r.args.l))))=iy n (aM (cU n (varsOf r).length j) (placesOf (varsOf r) r.args.l)) from rfl];simp only [aS,reduceAdd,reduceEqDiff,reduceIte,ta.jX,s1,s2,s3,s4,f19];by_cases eM:CM s.1 (ax rules.l) r (cU n (varsOf r).length j)<s.1 r.name (aM (cU n (varsOf r).length j) (placesOf (varsOf r) r.args.l))
 ·rw [if_pos eM] at ej;obtain ⟨cs,st,mp⟩:=s7 (CM s.1 (ax rules.l) r (cU n (varsOf r).length j));have g3:(h2.set b (.cells cs)).get 0=some (.cells (aB out)):=by rw [ag.aP,if_neg (by omega)];exact g2
  have v3:(h2.set b (.cells cs)).get V=some (.cells ((cU n (varsOf r).length j).map iv)):=by rw [ag.aP,if_neg (by omega)];exact v2
  have n3:(h2.set b (.cells cs)).next=h2.next:=ag.bq _ _ _
  simp only [ey (show ((CM s.1 (ax rules.l) r (cU n (varsOf r).length j):Nat):Int)<(s.1 r.name (aM (cU n (varsOf r).length j) (placesOf (varsOf r) r.args.l)):Int) by omega),aF,st,aS,reduceAdd,reduceEqDiff,reduceIte,ta.e5,ta.jX,f17,f19,s1,s2,s3,lz _ g3];generalize (h2.set b (.cells cs))=H3 at mp g3 v3 n3 ⊢;refine aj (fK o.n1 o.ov xq hj v3 (fun p h3 a1 a2 a3=>?_) fun p h3 a2 a3=>?_)
  ·simp only [aS,reduceAdd,reduceEqDiff,reduceIte];refine Ti _ H3 h3 _ ej mp g3 (by omega) a2 a3 (ta.of fun i hi=>?_) rfl f15 f16 f17 (.inl ⟨rfl,p,a1⟩);simp only [bg];repeat rw [if_neg (by omega)]
  ·simp only [aS,reduceAdd,reduceEqDiff,reduceIte];refine Ti _ H3 h3 _ ej mp g3 (by omega) a2 a3 (ta.of fun i hi=>?_) rfl f15 f16 f17 (.inr ⟨rfl,p⟩);simp only [bg];repeat rw [if_neg (by omega)]
 ·rw [if_neg eM] at ej;simp only [ep (show ¬ ((CM s.1 (ax rules.l) r (cU n (varsOf r).length j):Nat):Int)<(s.1 r.name (aM (cU n (varsOf r).length j) (placesOf (varsOf r) r.args.l)):Int) by omega),aE,aS,reduceAdd,reduceEqDiff,reduceIte,ta.e5,f17,lz h2 g2];refine aj (fK o.n1 o.ov xq hj v2 (fun p h3 a1 a2 a3=>?_) fun p h3 a2 a3=>?_)
  ·simp only [aS,reduceAdd,reduceEqDiff,reduceIte];refine Ti s h2 h3 _ ej m2 g2 (by omega) a2 a3 (ta.of fun i hi=>?_) f14 f15 f16 f17 (.inl ⟨rfl,p,a1⟩);simp only [bg];repeat rw [if_neg (by omega)]
  ·simp only [aS,reduceAdd,reduceEqDiff,reduceIte];refine Ti s h2 h3 _ ej m2 g2 (by omega) a2 a3 (ta.of fun i hi=>?_) f14 f15 f16 f17 (.inr ⟨rfl,p⟩);simp only [bg];repeat rw [if_neg (by omega)]
set_option maxHeartbeats 4000000 in
theorem NK(o:yU n rules out x d m)(hR:S1 n (cA x.l) rules.l R)(h2i:2<=hi){e0:Env}(hE:vo rules nm t x d e0)(hm:nR n rules.l d.l 1 2 hi R h)(mN:hi<=h.next)(g0:h.get 0=some (.cells (aB out)))(q14:e0 14 = .bool false)(q15:e0 15 = .int .i64 0)
  (done:∀ e h',vo rules nm t x d e->nR n rules.l d.l 1 2 hi (qD n (cA x.l) (ax rules.l) rules.l (R,false)).1 h'->h'.get 0=some (.cells (aB out))->h.next<=h'.next->e 14 = .bool (qD n (cA x.l) (ax rules.l) rules.l (R,false)).2->K (.exit 6) ⟨e,192,[],h'⟩=true) :
  bX (EV F.aN.L3) ⟨e0,192,[],h⟩ K=true:=by
 have Pa:rules.l.length<=cu:=by have:=o.qd;unfold cu;omega
 refine aG 0 rules.l.length (zero_le _) (fun i e h'=>∃ s:uv×Bool,s=qD n (cA x.l) (ax rules.l) (rules.l.take i) (R,false)/\vo rules nm t x d e/\nR n rules.l d.l 1 2 hi s.1 h'/\h'.get 0=some (.cells (aB out))/\h.next<=h'.next/\e 14 = .bool s.2/\e 15 = .int .i64 (i:Int))
  ⟨(R,false),rfl,hE,hm,g0,dK _,q14,q15⟩ ?_ ?_
 ·rintro i e h' _ tj ⟨s,hs,ry,oE,p0,oA,m8,lE⟩ K' hn hx yx hp;have hr:rules.l[i]?=some rules.l[i]:=ec tj;generalize rules.l[i]=r at hr;have lD:=iA hr;have hf:=o.kH r lD;have xq:=o.Bn r lD;have hrw:∀ hh,ah (some 3) (.dI (rules.l.flatMap aO) (i*3)) hh=some (.agg (aO r)):=fun hh=>cX ei hr
  have lu:S1 n (cA x.l) rules.l s.1:=by
   rw [hs];exact (Hq (L:=cA x.l) (R0:=R) (s:=(R,false)) o.n1 (fun q hq=>mem_of_mem_take hq) ⟨hR,dK _,fun h=>(by cases h)⟩).ok
  rw [F.aN.Df];simp only [ry.e0,lE,aS,reduceAdd,reduceEqDiff,reduceIte,bl tj,aU rules tj,hrw];refine aj (bU hf fun all fh=>?_);have yJ:all.l.length<=1000000:=by rw [fh];omega
  simp only [aS,reduceAdd,reduceEqDiff,reduceIte,uV yJ];have gV:(h'.alloc (.cells ((replicate all.l.length (0:Int)).map iv))).get h'.next=some (.cells ((replicate all.l.length (0:Int)).map iv)):=aD _ _
  have xV:bG h' (h'.alloc (.cells ((replicate all.l.length (0:Int)).map iv))):=bG.alloc _ _;have nV:(h'.alloc (.cells ((replicate all.l.length (0:Int)).map iv))).next=h'.next+1:=rfl
  generalize (h'.alloc (.cells ((replicate all.l.length (0:Int)).map iv)))=H at gV xV nV ⊢;rw [fh] at gV ⊢;rw [<- JD o.n1] at gV;have hmH:nR n rules.l d.l 1 2 hi s.1 H:=oE.eW fun b hb=>xV.get b (by rcases hb with rfl|hb<;>omega);refine Qa o hr fh (s0:=s) ⟨lu,Aj fun k _=>lu.le _ _,fun h=>(by cases h)⟩ h2i (V:=h'.next) (by omega) (ry.of fun i hi=>?_) hmH (by omega) (by rw [xV.get 0 (by omega)];exact p0) gV (by omega) m8 lE rfl rfl rfl fun e2 h2 ta m2 g2 n2 f14 f15=>?_
  ·simp only [bg];repeat rw [if_neg (by omega)]
  rw [F.aN.wY];simp only [f15,aK tj Pa,aq];refine hn _ _ ⟨_,by rw [P0 hr,<- hs],ta.of fun i hi=>?_,m2,g2,by omega,f14,rfl⟩;simp only [bg];repeat rw [if_neg (by omega)]
 ·rintro e h' ⟨s,hs,ry,oE,p0,oA,m8,lE⟩ K' hx;rw [kB (dK _)] at hs;rw [F.aN.Df];simp only [ry.e0,lE,aS,reduceAdd,reduceEqDiff,reduceIte,aX];rw [hx];rw [hs] at oE m8;refine done _ h' (ry.of fun i hi=>?_) oE p0 oA m8;simp only [bg];repeat rw [if_neg (by omega)]
set_option maxHeartbeats 4000000 in
theorem aN(lu:out.ok)(hv:dU out=true)(o:yU n rules out x d m)(hx:x.l=jY out)(nx:nm ∈ ax rules.l)(mN:iJ n t.l=true)(z6:t.l.length=jq rules.l nm){h:ag}{K:Out->ag->Bool}
  (hK:∀ R,S1 n (cA (jY out)) rules.l R->sZ n (cA (jY out)) rules.l R->K (.ret (.int .i64 (R nm t.l:Int))) h=true):Sem TP 24 [an aO 3 rules,.agg (aB out),.str nm,an encI 1 t] h K:=by
 have main:Sem TP 24 [an aO 3 rules,.agg (aB out),.str nm,an encI 1 t] ag.empty (fun o' h'=>yes (∃ R:uv,o' = .ret (.int .i64 (R nm t.l:Int))/\S1 n (cA (jY out)) rules.l R/\sZ n (cA (jY out)) rules.l R)):=by
  refine F.zU ?_;rw [F.A3];simp only [cG (dH out),aq,bA,ag.aV];have g0:(ag.empty.alloc (.cells (aB out))).get 0=some (.cells (aB out)):=aD _ _;have gn:(ag.empty.alloc (.cells (aB out))).next=1:=rfl
  generalize (ag.empty.alloc (.cells (aB out)))=H at g0 gn ⊢;have l0:ah (some 2) (.ptr 0 0) H=some (.agg (aB out)):=by rw [ai g0,cQ (cs:=aB out) (n:=2) rfl]
  simp only [l0,aq];refine aj (BA lu hv fun x' iY=>?_);simp only [aS,reduceAdd,reduceEqDiff,reduceIte];refine aj (dm o.qd fun d' ur=>?_);have o':yU n rules out x' d' m:=⟨o.n1,o.ov,o.qd,o.tC,o.kH,o.Bn,o.a12,o.go,o.hn,by rw [iY,<- hx];exact o.fit,o.pow,ur⟩
  have Ct:=o'.dl;simp only [aS,reduceAdd,reduceEqDiff,reduceIte,Te (show d'.l.length<=1000000 by omega)];have w0:(H.alloc (.cells (replicate d'.l.length .au))).get 0=some (.cells (aB out)):=by rw [ag.aW,if_neg (by omega)];exact g0
  have w1:(H.alloc (.cells (replicate d'.l.length .au))).get 1=some (.cells (replicate d'.l.length .au)):=by rw [<- gn];exact aD _ _
  have wn:(H.alloc (.cells (replicate d'.l.length .au))).next=2:=by rw [ag.aV,gn]
  rw [gn];generalize (H.alloc (.cells (replicate d'.l.length .au)))=H2 at w0 w1 wn ⊢;rw [<- iY];refine P8 o' (nm:=nm) (t:=t) (x:=x') ⟨rfl,rfl,rfl,rfl,rfl,rfl,rfl⟩ rfl w0 w1 wn fun e h3 hE3 m3 g3 n3=>?_;rw [F.aN.aJ]
  refine pU (fun mm e h'=>∃ (R:uv) (fl:Bool),vo rules nm t x' d' e/\nR n rules.l d'.l 1 2 h3.next R h'/\h'.get 0=some (.cells (aB out))/\h3.next<=h'.next/\S1 n (cA x'.l) rules.l R/\e 14 = .bool fl/\((fl=true/\mm=IC (kL n rules.l) R+1)\/(fl=false/\mm=0/\sZ n (cA x'.l) rules.l R))) _
   ⟨fun _ _=>kz+1,true,hE3.of fun i hi=>?_,m3,g3,dK _,.top _ _ _,rfl,.inl ⟨rfl,rfl⟩⟩ ?_
  ·simp only [bg];repeat rw [if_neg (by omega)]
  rintro mm e4 h4 ⟨R,fl,hE4,m4,g4,n4,hR,f14,hc⟩ K' wj hx4 hr4;rw [F.aN.kE];simp only [f14,cF];rcases hc with ⟨rfl,K6⟩|⟨rfl,K6,ic⟩
  ·simp only [aF];refine NK o' hR n3 (hE4.of fun i hi=>?_) m4 n4 g4 rfl rfl fun e5 h5 hE5 m5 g5 n5 p14=>?_
   ·simp only [bg];repeat rw [if_neg (by omega)]
   rw [F.aN.FR];have hq:=Hq (L:=cA x'.l) (R0:=R) (s:=(R,false)) o'.n1 (fun q hq=>hq) ⟨hR,dK _,fun h=>(by cases h)⟩ (qs:=rules.l)
   cases Rv:(qD n (cA x'.l) (ax rules.l) rules.l (R,false)).2 with
   |true=>
    have:=hq.lt Rv;exact wj (IC (kL n rules.l) (qD n (cA x'.l) (ax rules.l) rules.l (R,false)).1+1) _ _ (by omega) ⟨_,true,hE5,m5,g5,by omega,hq.ok,by rw [p14,Rv],.inl ⟨rfl,rfl⟩⟩
   |false=>
    obtain ⟨h1,h2⟩:=Ln o'.n1 Rv;rw [h1] at m5;exact wj 0 _ _ (by omega) ⟨R,false,hE5,m5,g5,by omega,hR,by rw [p14,Rv],.inr ⟨rfl,rfl,h2⟩⟩
  ·simp only [aE];have lz:ah none (.ptr 0 0) h4=some (.int .i64 (n:Int)):=by rw [ai g4,<- o'.hn];rfl
   obtain ⟨Tg,Kl⟩:=o'.head nx;obtain ⟨bi,Rh⟩:=o'.at_ nx;obtain ⟨b,len,s1,s2,s3,s4,s5,s6,s7⟩:=m4.spot o'.n1 o'.nd Rh mN z6;rw [hx4,F.aN.iM];simp only [bg,reduceEqDiff,reduceIte,hE4.e2,hE4.e3,hE4.e5,hE4.jH,hE4.jX,aS,reduceAdd,reduceEqDiff,reduceIte,lz];refine aj (dQ (show d'.l.length<=cu by unfold cu;omega) (fun bj hbj=>?_) fun pX=>absurd (iA Rh) pX);obtain rfl:bj=bi:=kV o'.nd hbj Rh;simp only [aS,reduceAdd,reduceEqDiff,reduceIte,lz,s1,s2,AV.beq_refl,Bool.and_self,Bool.and_true,if_true];refine aj (fV o'.n1 (x:=t) z6 Tg Kl mN ?_);simp only [aS,reduceAdd,reduceEqDiff,reduceIte,s2,s3,s4,AV.beq_refl,Bool.and_self,Bool.and_true,if_true];exact cO.2 ⟨R,rfl,hR,ic⟩
 refine main.frozen (by simp [AV.cN,AV.pure,bI dW,ew,bI jj]) fun o' h' ho=>?_;obtain ⟨R,rfl,h1,h2⟩:=cO.1 ho;exact ⟨_,_,rfl,.scalar _ rfl,hK R h1 h2⟩
end
theorem NL{s:eG}(hv:dU s=true){r:Rel}(hr:s.aY.l[i]?=some r):ny (eX r.name) s.aY.l=(i:Int):=by
 have hf:=sX (nD hv) r (iA hr);rcases pY (eX r.name) s.aY.l with ⟨h1,h2⟩|⟨j,q,h1,h2,h3⟩
 ·rw [h2] at hf;cases hf
 ·rw [hf] at h3;cases h3;rw [h1];have hN:=nD hv;obtain ⟨l1,e1⟩:=oB.1 h2;obtain ⟨l2,e2⟩:=oB.1 hr;by_cases eM:j<i
  ·have:=pairwise_iff_getElem.1 hN j i (by simpa using l1) (by simpa using l2) eM;rw [getElem_map,getElem_map,e1,e2] at this;exact absurd rfl this
  ·by_cases Ou:i<j
   ·have:=pairwise_iff_getElem.1 hN i j (by simpa using l2) (by simpa using l1) Ou;rw [getElem_map,getElem_map,e1,e2] at this;exact absurd rfl this
   ·have:i=j:=(by omega);rw [this]
theorem Tj{k:Nat}(n1:1<=n){t:List Int}(z6:t.length=k)(NU:iJ n t=true):((wg n L nm k (n ^ k)).any fun u=>u==t)=L nm (iy n t):=by
 rw [Bool.eq_iff_iff,List.any_eq_true];have eM:=lX NU;rw [z6] at eM;obtain ⟨b1,b2⟩:=m9 n1 eM;have ht:cU n k (iy n t)=t:=KU (by rw [jA,z6]) b1 NU b2;constructor
 ·rintro ⟨u,hu,he⟩;rw [beq_iff_eq] at he;obtain ⟨i,hi,hL,rfl⟩:=xP.1 hu;rw [<- he,(m9 n1 hi).2];exact hL
 ·intro hL;exact ⟨_,xP.2 ⟨_,eM,hL,rfl⟩,by rw [ht];simp⟩
theorem V4{s:eG}(ho:gW rs s)(hd:out.aY.l.map dz=s.aY.l.map dz++r7 rs n L (dG rs)){q:Rel}(hq:q ∈ out.aY.l)(hn:q.name ∈ ax rs) :
  q.arity=(jq rs q.name:Int)/\q.bW.l.map Sl.l=wg n L q.name (jq rs q.name) (n ^ jq rs q.name):=by
 have h2:dz q ∈ s.aY.l.map dz++r7 rs n L (dG rs):=by rw [<- hd];exact List.mem_map_of_mem hq
 rcases mem_append.1 h2 with h2|h2
 ·obtain ⟨p,hp,e⟩:=mem_map.1 h2;unfold dz at e;simp only [Prod.mk.injEq] at e;exact absurd (.inr ⟨p,hp,by rw [e.1];exact hn⟩) ho.names
 ·obtain ⟨nm,nx,e⟩:=mem_map.1 h2;unfold dz at e;simp only [Prod.mk.injEq] at e;obtain ⟨rfl,e2,e3⟩:=e;exact ⟨e2.symm,e3.symm⟩
theorem Tk{s:eG}(ho:gW rs s)(hd:out.aY.l.map dz=s.aY.l.map dz++r7 rs n L (dG rs))(hn:nm ∈ ax rs):∃ (j:Nat) (q:Rel),ny (nC nm (jq rs nm:Int)) out.aY.l=(j:Int)/\out.aY.l[j]?=some q/\q.name=nm/\q.arity=(jq rs nm:Int):=by
 have hm:(nm,(jq rs nm:Int),wg n L nm (jq rs nm) (n ^ jq rs nm)) ∈ out.aY.l.map dz:=by
  rw [hd];exact mem_append_right _ (mem_map.2 ⟨nm,(dJ rs).2 hn,rfl⟩)
 obtain ⟨p,hp,e⟩:=mem_map.1 hm;unfold dz at e;simp only [Prod.mk.injEq] at e;rcases pY (nC nm (jq rs nm:Int)) out.aY.l with ⟨_,h2⟩|⟨j,q,h1,h2,h3⟩
 ·rw [find?_eq_none] at h2;exact absurd (h2 p hp) (by simp [nC,e.1,e.2.1])
 ·have h4:=find?_some h3;simp only [nC,and_eq_true,beq_iff_eq,decide_eq_true_eq] at h4;exact ⟨j,q,h1,h2,h4.1,h4.2⟩
theorem Tl{s:eG}{m:fy}(ho:gW rs s)(gI:dM rs []=some m)(hn:s.size=(n:Int))(hz:out.size=s.size)(hF:jZ rs n s L)(hd:out.aY.l.map dz=s.aY.l.map dz++r7 rs n L (dG rs)) :
  ∀ r ∈ rs,∀ vs,mX n r vs->∀ c ∈ r.body.l,c.kind=0->cA (jY out) c.name (iy n (aM vs (aQ r c)))=L c.name (iy n (aM vs (aQ r c))):=by
 intro r hr vs ha c hc ck;have n1:1<=n:=by have:=(jS.1 ho.valid).lo;omega
 have TC:=CK ho gI hn hz hd;obtain ⟨kk,T,ic,hT,g⟩:=hF;obtain ⟨_,o,hof,hoa⟩:=Ny ho gI hn TC (Le hd) hr hc ck;have mM:∀ p ∈ aQ r c,p<vs.length:=by rw [ha.1];exact hG (jm hc)
 have mN:=iD ha.2 mM;have hlen:(aM vs (aQ r c)).length=c.args.l.length:=by rw [fM];unfold aQ placesOf;simp
 have eM:=lX mN;rw [hlen] at eM;generalize iy n (aM vs (aQ r c))=w at eM;rw [SU out (by rw [hz,hn]),Bool.eq_iff_iff,JM TC (by rw [hz,hn]) hof hoa eM];by_cases vt:c.name ∈ ax rs
 ·have Mj:w<n ^ jq rs c.name:=by
   obtain ⟨_,r',yY,ab0,ab1⟩:=qS gI vt;have h5:((r'.args.l.length:Nat):Int)=c.args.l.length:=l9 gI (kW yY) (by rw [ab0];exact ri hr hc ck);rw [ab1,show r'.args.l.length=c.args.l.length by omega];exact eM
  exact SV ho n1 hd vt Mj
 ·rw [SW hd vt];have hL:L c.name w=xN n s c.name w:=jD.rest .zero g (zero_le _) (.inl fun r' yY e=>vt (by rw [<- e];exact List.mem_map_of_mem yY)) w;rw [hL,Nz]
  cases hf:s.aY.l.find? (nC c.name (c.args.l.length:Int)) with
  |none=>exact absurd (.inl ⟨_,ri hr hc ck,vt,hf⟩) ho.names
  |some p=>
   obtain ⟨h6,h7,h8⟩:=yF hf;have h9:=uh ho.valid h6;rw [h7] at h9;exact (JM ho.valid hn h9 h8 eM).symm
theorem Lr(n1:1<=n)(Vq:rules.l.length<=60)(iF:∀ r ∈ rules.l,r.kH)(xq:∀ r ∈ rules.l,(varsOf r).length<=12)(Tm:out.ok)(TC:dU out=true)(hn:out.size=(n:Int))(hx:∀ r ∈ rules.l,kf n r (jY out))(zk:∀ r ∈ rules.l,r.args.l.length<=12){p:mJ}(zH:z7 p){y:Sl Int}{K:Out->ag->Bool}
  (hK:K (.ret (.bool (sq n (cA (jY out)) rules.l (SizeOf.sizeOf p) p nm y.l))) h=true):Sem TP 26 [an aO 3 rules,.agg (aB out),.str nm,an encI 1 y,.agg (dB p)] h K:=by
 refine Sem.data (r:=.bool (sq n (cA (jY out)) rules.l (SizeOf.sizeOf p) p nm y.l)) ?_ (by simp [AV.cN,AV.pure,bI dW,ew,bI jj,u7]) hK;clear hK;refine F.Cj ?_;rw [F.Ec];simp only [cG (dH out),cG (rq p),aq,bA,ag.aV];have g0:((ag.alloc ag.empty (.cells (aB out))).alloc (.cells (dB p))).get 0=some (.cells (aB out)):=by simp [ag.aW,bA]
 have g1:((ag.alloc ag.empty (.cells (aB out))).alloc (.cells (dB p))).get 1=some (.cells (dB p)):=by simp [ag.aW,bA]
 generalize ((ag.alloc ag.empty (.cells (aB out))).alloc (.cells (dB p)))=H at g0 g1 ⊢;have l0:ah (some 2) (.ptr 0 0) H=some (.agg (aB out)):=by rw [ai g0,cQ (cs:=aB out) (n:=2) rfl]
 have lz:ah none (.ptr 0 0) H=some (.int .i64 (n:Int)):=by rw [ai g0,<- hn];rfl
 have lp:ah (some 3) (.ptr 1 0) H=some (.agg (dB p)):=by rw [ai g1,cQ (nN p)]
 simp only [aS,reduceAdd,reduceEqDiff,reduceIte,l0,lz,lp];refine aj (BA Tm TC fun x jG=>?_);simp only [aS,reduceAdd,reduceEqDiff,reduceIte,lz,lp,AV.beq_refl,Bool.and_self,Bool.and_true,if_true];refine aj (er n1 Vq iF xq (x:=x) (by rw [jG];exact hx) zk _ p (dK _) zH ?_);rw [jG];simp only [gJ];exact c8 rfl
theorem um(s:St):dV TP s Tryz.f23.results.toList=(match ah (some 2) (s.env 6) s.h,(some [s.env 7]:Option (List AV)) with|some v,some vs=>some (v :: vs)|_,_=>none):=by kernel_rfl
theorem JW(f:ZS):bE (lZ f)=true:=by
 have h1:bE [an encI 1 f.t]=true:=by cases f.t<;>rfl
 unfold lZ;simp only [bE,Bool.and_true] at h1 ⊢;rw [h1];rfl
def Hr(rs:List aR)(s:eG)(f:ZS)(st:eG)(e:Int):Prop:=
 (By rs s e/\st=s)\/(gW rs s/\(f.name ∉ ax rs\/jq rs f.name≠f.t.l.length)/\st=s/\e=4) \/
  (gW rs s/\f.name ∈ ax rs/\jq rs f.name=f.t.l.length/\(e=0\/e=6)/\st.size=s.size/\∃ L,jZ rs s.size.toNat s L/\st.aY.l.map dz=s.aY.l.map dz++r7 rs s.size.toNat L (dG rs)/\(e=0↔iJ s.size.toNat f.t.l=true/\L f.name (iy s.size.toNat f.t.l)=true))
set_option maxHeartbeats 2000000 in
theorem NM{s:eG}{f:ZS}(lu:∀ r ∈ rules.l,r.ok)(iF:∀ r ∈ rules.l,r.kH)(qu:s.ok){K:Out->ag->Bool}
  (hK:∀ st e,Hr rules.l s f st e->K (.ret (.tuple [.agg (aB st),.int .i64 e])) h=true):Sem TP 23 [an aO 3 rules,.agg (aB s),.agg (lZ f)] h K:=by
 have main:Sem TP 23 [an aO 3 rules,.agg (aB s),.agg (lZ f)] ag.empty (fun o h'=>yes (∃ st e,o = .ret (.tuple [.agg (aB st),.int .i64 e])/\Hr rules.l s f st e)):=by
  generalize hR:(fun (o:Out) (h':ag)=>yes (∃ st e,o = .ret (.tuple [.agg (aB st),.int .i64 e])/\Hr rules.l s f st e))=R;have fin:∀ st e h',Hr rules.l s f st e->R (.ret (.tuple [.agg (aB st),.int .i64 e])) h'=true:=fun st e h' hk=>by rw [<- hR];exact cO.2 ⟨st,e,rfl,hk⟩
  clear hR;refine F.Ed ?_;rw [F.Ge];simp only [cG (dH s),cG (JW f),aq,bA,ag.aV];have g0:(((ag.alloc ag.empty (.cells (aB s))).alloc (.cells (lZ f))).alloc (.cells [.int .i64 0,.au])).get 0=some (.cells (aB s)):=by simp [ag.aW,bA]
  have g1:(((ag.alloc ag.empty (.cells (aB s))).alloc (.cells (lZ f))).alloc (.cells [.int .i64 0,.au])).get 1=some (.cells (lZ f)):=by simp [ag.aW,bA]
  have g2:(((ag.alloc ag.empty (.cells (aB s))).alloc (.cells (lZ f))).alloc (.cells [.int .i64 0,.au])).get 2=some (.cells [.int .i64 0,.au]):=by simp [ag.aW,bA]
  have gn:(((ag.alloc ag.empty (.cells (aB s))).alloc (.cells (lZ f))).alloc (.cells [.int .i64 0,.au])).next=3:=rfl
  generalize (((ag.alloc ag.empty (.cells (aB s))).alloc (.cells (lZ f))).alloc (.cells [.int .i64 0,.au]))=H at g0 g1 g2 gn ⊢;have l0:ah (some 2) (.ptr 0 0) H=some (.agg (aB s)):=by rw [ai g0,cQ (cs:=aB s) (n:=2) rfl]
  have lf:ah none (.ptr 1 0) H=some (.str f.name):=by rw [ai g1];rfl
  have lt:ah none (.ptr 1 1) H=some (an encI 1 f.t):=by rw [ai g1];rfl
  have put:∀ (st:eG) (h':ag),h'.get 2=some (.cells [.int .i64 0,.au])->∃ h2,bh 2 (.ptr 2 0) (.agg (aB st)) h'=some h2/\ah (some 2) (.ptr 2 0) h2=some (.agg (aB st)):=fun st h' hg=>by
   refine ⟨h'.set 2 (.cells (aB st)),?_,?_⟩
   ·rw [cJ (n:=2) (v:=.agg (aB st)) hg rfl (dH st) (by simp)];rfl
   ·rw [ai (cs:=aB st) (by rw [ag.aP,if_pos rfl]),cQ (cs:=aB st) (n:=2) rfl]
  obtain ⟨hA,sA,lA⟩:=put s H g2;simp only [l0,aq];refine aj (bZ lu iF qu (fun e he=>?_) fun ho=>?_)
  ·have lF:=(vh he).1;simp only [aS,reduceAdd,reduceEqDiff,reduceIte,ct,ep lF,Bool.not_false,aF,l0,sA,um,lA,oneOf];exact fin s e _ (.inl ⟨he,rfl⟩)
  obtain ⟨m,gI⟩:=ho.iP.go;have qd:=ho.iP.kH;have tC:∀ r ∈ rules.l,r.body.l.length<=20:=fun r hr=>(gZ gI r hr).2.1;simp only [aS,reduceAdd,reduceEqDiff,reduceIte,ct,decide_true,Bool.not_true,aE,lf];refine aj (dm qd fun df hdf=>?_);have Ct:df.l.length<=cu:=by rw [hdf];have:=mV rules.l;unfold cu;omega
  have Ae:∀ s:bQ,(df.l.any fun z=>z==s)=decide (s ∈ ax rules.l):=fun s=>by rw [hdf,K8,decide_eq_decide];exact dJ rules.l
  simp only [aS,reduceAdd,reduceEqDiff,reduceIte,lf,AV.beq_refl,Bool.and_self,Bool.and_true,if_true];refine aj (tG Ct ?_);rw [Ae];simp only [aS,reduceAdd,reduceEqDiff,reduceIte];by_cases nx:f.name ∈ ax rules.l
  case neg=>
   simp only [ep nx,Bool.not_false,aF,l0,aS,reduceAdd,reduceEqDiff,reduceIte,sA,um,lA,oneOf];exact fin s 4 _ (.inr (.inl ⟨ho,.inl nx,rfl,rfl⟩))
  simp only [ey nx,Bool.not_true,aE,lf,lt,aS,reduceAdd,reduceEqDiff,reduceIte];refine aj (dZ qd tC ?_);rw [Bz gI nx];simp only [aS,reduceAdd,reduceEqDiff,reduceIte,lt,AV.beq_refl,Bool.and_self,Bool.and_true,if_true,ct];by_cases zk:jq rules.l f.name=f.t.l.length
  case neg=>
   simp only [ep (show ¬ ((jq rules.l f.name:Nat):Int)=(f.t.l.length:Int) by omega),Bool.not_false,aF,l0,aS,reduceAdd,reduceEqDiff,reduceIte,sA,um,lA,oneOf];exact fin s 4 _ (.inr (.inl ⟨ho,.inr zk,rfl,rfl⟩))
  simp only [ey (show ((jq rules.l f.name:Nat):Int)=(f.t.l.length:Int) by omega),Bool.not_true,aE,l0,aq];refine aj (bP iF ho fun out hz hx=>?_);obtain ⟨L,hF,hd⟩:=hx;obtain ⟨n,hn⟩:∃ n:Nat,s.size=(n:Int):=⟨s.size.toNat,by have:=(jS.1 ho.valid).lo;omega⟩
  have sV:s.size.toNat=n:=by omega
  have fh:∀ e,e=0\/e=6->(e=0↔iJ s.size.toNat f.t.l=true/\L f.name (iy s.size.toNat f.t.l)=true)->∀ h',R (.ret (.tuple [.agg (aB out),.int .i64 e])) h'=true:=fun e he hi h'=>fin out e h' (.inr (.inr ⟨ho,nx,zk,he,hz,L,hF,hd,hi⟩));rw [sV] at hF hd fh;have n1:1<=n:=by have:=(jS.1 ho.valid).lo;omega
  have TC:=CK ho gI hn hz hd;obtain ⟨QY,Tm⟩:=nF TC;obtain ⟨H1,EM,p1,Wo,pn1⟩:=cR (h:=H) (zs:=[.int .i64 0,.au]) (cs:=aB out) (n:=2) rfl rfl (dH out);have q1:H1.get 1=some (.cells (lZ f)):=by rw [Wo 1 (by omega)];exact g1
  have q2:H1.get 2=some (.cells [.int .i64 0,.au]):=by rw [Wo 2 (by omega)];exact g2
  have mf:ah none (.ptr 1 0) H1=some (.str f.name):=by rw [ai q1];rfl
  have mt:ah none (.ptr 1 1) H1=some (an encI 1 f.t):=by rw [ai q1];rfl
  have mr:ah none (.ptr H.next 1) H1=some (an bO 3 out.aY):=by rw [ai p1];rfl
  have mo:ah (some 2) (.ptr H.next 0) H1=some (.agg (aB out)):=by rw [ai p1,cQ (cs:=aB out) (n:=2) rfl]
  obtain ⟨hB,sB,lB⟩:=put out H1 q2;obtain ⟨j,q,hj,hq,ve,hqa⟩:=Tk ho hd nx;have hjw:=NL TC hq;rw [ve] at hjw;have Oy:=(oB.1 hq).1;have Pv:=iA hq;simp only [aS,reduceAdd,reduceEqDiff,reduceIte,EM,mf,mt,mr,mo];refine aj (fI Tm ?_);rw [hjw];simp only [aS,reduceAdd,reduceEqDiff,reduceIte,mt,mr,AV.beq_refl,Bool.and_self,Bool.and_true,if_true,aU out.aY Oy,ua hq];refine aj (fJ (by have:=QY.abe q Pv;unfold cu;omega) (fun u hu=>by have:=QY.tup q Pv u hu;unfold cu;omega) ?_);simp only [aS,reduceAdd,reduceEqDiff,reduceIte]
  have key:((q.bW.l.map Sl.l).any fun u=>u==f.t.l)=true↔iJ n f.t.l=true/\L f.name (iy n f.t.l)=true:=by
   have hqt:=(V4 ho hd Pv (by rw [ve];exact nx)).2;rw [ve,zk] at hqt;rw [hqt];clear hqt;generalize hk:f.t.l.length=k;constructor
   ·intro SK;obtain ⟨u,hu,he⟩:=List.any_eq_true.1 SK;rw [beq_iff_eq] at he;subst he;unfold wg at hu;obtain ⟨i,hi,hui⟩:=mem_map.1 hu;obtain ⟨Wa,NT⟩:=mem_filter.1 hi;obtain ⟨a1,a2⟩:=m9 n1 (mem_range.1 Wa);rw [<- hui];exact ⟨a1,by rw [a2];exact NT⟩
   ·rintro ⟨a1,a2⟩;have h3:=Tj (k:=k) n1 (L:=L) (nm:=f.name) hk a1;rw [h3];exact a2
  cases SK:((q.bW.l.map Sl.l).any fun u=>u==f.t.l) with
  |false=>
   rw [SK] at key;simp only [Bool.not_false,aF,mo,aS,reduceAdd,reduceEqDiff,reduceIte,sB,um,lB,oneOf];exact fh 6 (.inr rfl) ⟨fun h=>absurd h (by omega),fun h=>absurd (key.2 h) (by simp)⟩ _
  |true=>
   rw [SK] at key;simp only [Bool.not_true,aE,mo,aS,reduceAdd,reduceEqDiff,reduceIte,sB,um,lB,oneOf];exact fh 0 (.inl rfl) ⟨fun _=>key.1 rfl,fun _=>rfl⟩ _
 refine main.frozen (by simp [AV.cN,AV.pure,bI dW,ew,lZ,bI jj]) fun o h' ho=>?_;obtain ⟨st,e,rfl,hk⟩:=cO.1 ho;exact ⟨_,_,rfl,.dP (by simp [AV.cN,AV.pure,ew]),hK st e hk⟩
theorem V5{s:eG}{e e':Int}(h:By rs s e)(g:By rs s e'):e=e':=by
 rcases h with ⟨h1,h2⟩|⟨h1,h2,h3⟩
 ·rcases g with ⟨_,g2⟩|⟨g1,g2,_⟩
  ·rw [h2,g2]
  ·rcases h1 with h1|h1
   ·exact absurd g1 h1
   ·rw [h1] at g2;cases g2
 ·rcases g with ⟨g1,_⟩|⟨_,_,g3⟩
  ·rcases g1 with g1|g1
   ·exact absurd h1 g1
   ·rw [g1] at h2;cases h2
  ·rcases h3 with ⟨a,b⟩|⟨a,b,c⟩
   ·rcases g3 with ⟨_,y⟩|⟨x,_,_⟩
    ·rw [b,y]
    ·exact absurd a x
   ·rcases g3 with ⟨x,_⟩|⟨_,_,z⟩
    ·exact absurd x a
    ·rw [c,z]
theorem Qb{A B:Lk}(h:∀ r ∈ rs,∀ vs,mX n r vs->∀ c ∈ r.body.l,c.kind=0->A c.name (iy n (aM vs (aQ r c)))=B c.name (iy n (aM vs (aQ r c))))(hr:r ∈ rs)(ha:mX n r vs):iz n A r vs=iz n B r vs:=by
 unfold iz;rw [Bool.eq_iff_iff,List.all_eq_true,List.all_eq_true]
 have key:∀ c ∈ r.body.l,dy n A c (aM vs (aQ r c))=dy n B c (aM vs (aQ r c)):=fun c hc=>by
  unfold dy;by_cases k0:c.kind=0
  ·rw [if_pos k0,if_pos k0,h r hr vs ha c hc k0]
  ·rw [if_neg k0,if_neg k0]
 exact ⟨fun g c hc=>by rw [<- key c hc];exact g c hc,fun g c hc=>by rw [key c hc];exact g c hc⟩
theorem VP.congr{A B:Lk}(h:∀ r ∈ rs,∀ vs,mX n r vs->iz n A r vs=iz n B r vs){t:List Int}{w:Nat}(p:VP n A rs nm t w):VP n B rs nm t w:=by
 induction p with
 |mk r vs ws hr ha gd hp ih=>exact .mk r vs ws hr ha (by rw [<- h r hr vs ha];exact gd) ih
theorem Tn{s:eG}{t:Sl Int}{p:mJ}{e:Int}{st:eG}{b:Int}(hw:PZ rs s nm t.l p e)(hk:Hr rs s ⟨nm,t⟩ st b) :
  (b≠0/\e=b/\p=k8)\/(b=0/\gW rs s/\nm ∈ ax rs/\jq rs nm=t.l.length/\st.size=s.size/\∃ L,jZ rs s.size.toNat s L/\st.aY.l.map dz=s.aY.l.map dz++r7 rs s.size.toNat L (dG rs)/\S9 s.size.toNat L nm t.l /\
   ∃ T,NB s.size.toNat L rs T/\vj s.size.toNat L rs T/\((T nm t.l=none/\e=5/\p=k8)\/(e=0/\xQ T rs nm t.l p/\z7 p))):=by
 rcases hk with ⟨he,rfl⟩|⟨ho,pX,rfl,rfl⟩|⟨ho,nx,zk,he,hz,L,hF,hd,Zn⟩
 ·rcases hw with ⟨TZ,rfl⟩|⟨ho,_⟩|⟨ho,_⟩
  ·exact .inl ⟨(vh he).1,V5 TZ he,rfl⟩
  ·exact absurd ho (vh he).2
  ·exact absurd ho (vh he).2
 ·rcases hw with ⟨TZ,rfl⟩|⟨_,_,rfl,rfl⟩|⟨_,h1,h2,_⟩
  ·exact absurd ho (vh TZ).2
  ·exact .inl ⟨by omega,rfl,rfl⟩
  ·rcases pX with pX|pX
   ·exact absurd h1 pX
   ·exact absurd h2 pX
 ·rcases hw with ⟨TZ,rfl⟩|⟨_,pX,_⟩|⟨_,_,_,L',hF',hc⟩
  ·exact absurd ho (vh TZ).2
  ·rcases pX with pX|pX
   ·exact absurd nx pX
   ·exact absurd zk pX
  ·obtain rfl:=hF'.unique hF;rcases hc with ⟨hnh,rfl,rfl⟩|⟨hh,hT⟩
   ·rcases he with rfl|rfl
    ·exact absurd (Zn.1 rfl) hnh
    ·exact .inl ⟨by omega,rfl,rfl⟩
   ·exact .inr ⟨Zn.2 hh,ho,nx,zk,hz,L',hF',hd,hh,hT⟩
set_option maxHeartbeats 4000000 in
theorem Es{s:eG}{f:ZS}(lu:∀ r ∈ rules.l,r.ok)(qu:s.ok)(LQ:f.ok):Sem TP 5 [an aO 3 rules,.agg (aB s),.agg (lZ f)] ag.empty Mn:=by
 refine F.vW ?_;rw [F.xd];simp only [cG (dH s),cG (JW f),aq,bA,ag.aV];have g0:((ag.alloc ag.empty (.cells (aB s))).alloc (.cells (lZ f))).get 0=some (.cells (aB s)):=by simp [ag.aW,bA]
 have g1:((ag.alloc ag.empty (.cells (aB s))).alloc (.cells (lZ f))).get 1=some (.cells (lZ f)):=by simp [ag.aW,bA]
 have gn:((ag.alloc ag.empty (.cells (aB s))).alloc (.cells (lZ f))).next=2:=rfl
 generalize ((ag.alloc ag.empty (.cells (aB s))).alloc (.cells (lZ f)))=H at g0 g1 gn ⊢;have l0:ah (some 2) (.ptr 0 0) H=some (.agg (aB s)):=by rw [ai g0,cQ (cs:=aB s) (n:=2) rfl]
 have lt:ah none (.ptr 1 1) H=some (an encI 1 f.t):=by rw [ai g1];rfl
 have ln:ah none (.ptr 1 0) H=some (.str f.name):=by rw [ai g1];rfl
 have fin:∀ h':ag,aA TP 12 [] h' (bH (fun x h=>Mn (.ret x) h) fun v h=>Mn (.panic v) h)=true:=fun h'=>by
  refine aj (R2 ?_);simp only [aS,reduceAdd,reduceEqDiff,reduceIte];rfl
 simp only [l0,aq];refine aj (dx lu qu fun b hb=>?_);simp only [aS,reduceAdd,reduceEqDiff,reduceIte]
 cases b with
 |false=>simp only [Bool.not_false,aF];exact fin _
 |true=>
 have iF:=hb rfl;simp only [Bool.not_true,aE,lt,ln,aS,reduceAdd,reduceEqDiff,reduceIte];by_cases qd:(60:Int)<(f.t.l.length:Int)
 ·simp only [ey qd,aF];exact fin _
 simp only [ep qd,aE];by_cases aac:(1000:Int)<(f.name.length:Int)
 ·simp only [ey aac,aF];exact fin _
 simp only [ep aac,aE,l0,ln,lt,aq];refine aj (ki lu iF qu (by omega) (by omega) fun p e hw=>?_);obtain ⟨H1,EM,p1,Wo,pn1⟩:=cR (h:=H) (zs:=[.int .i64 0,.au,.au]) (cs:=dB p) (n:=3) rfl (nN p) (rq p);have q0:H1.get 0=some (.cells (aB s)):=by rw [Wo 0 (by omega)];exact g0
 have q1:H1.get 1=some (.cells (lZ f)):=by rw [Wo 1 (by omega)];exact g1
 have m0:ah (some 2) (.ptr 0 0) H1=some (.agg (aB s)):=by rw [ai q0,cQ (cs:=aB s) (n:=2) rfl]
 have m1:ah (some 2) (.ptr 1 0) H1=some (.agg (lZ f)):=by rw [ai q1,cQ (cs:=lZ f) (n:=2) rfl]
 simp only [aS,reduceAdd,reduceEqDiff,reduceIte,EM,m0,m1];refine aj (NM (f:=f) lu iF qu fun st b hk=>?_);obtain ⟨H2,qX,p2,po2,pn2⟩:=cR (h:=H1) (zs:=[.int .i64 0,.au]) (cs:=aB st) (n:=2) rfl rfl (dH st);have x2:bG H H2:=⟨by omega,fun c hc=>by rw [po2 c (by omega),Wo c (by omega)]⟩
 have k1:H2.get H.next=some (.cells (dB p)):=by rw [po2 _ (by omega)];exact p1
 have kl0:ah none (.ptr H.next 0) H2=some (.int .i64 p.nE):=by rw [ai k1,ja];rfl
 have kl1:ah none (.ptr H.next 1) H2=some (an encI 1 p.eZ):=by rw [ai k1,ja];rfl
 have kl2:ah none (.ptr H.next 2) H2=some (an dB 3 p.parts):=by rw [ai k1,ja];rfl
 have klp:ah (some 3) (.ptr H.next 0) H2=some (.agg (dB p)):=by rw [ai k1,cQ (nN p)]
 have ks:ah (some 2) (.ptr 0 0) H2=some (.agg (aB s)):=by rw [ai (by rw [x2.get 0 (by omega)];exact g0),cQ (cs:=aB s) (n:=2) rfl]
 have kt:ah none (.ptr 1 1) H2=some (an encI 1 f.t):=by rw [ai (by rw [x2.get 1 (by omega)];exact g1)];rfl
 have kn:ah none (.ptr 1 0) H2=some (.str f.name):=by rw [ai (by rw [x2.get 1 (by omega)];exact g1)];rfl
 have ko:ah (some 2) (.ptr H1.next 0) H2=some (.agg (aB st)):=by rw [ai p2,cQ (cs:=aB st) (n:=2) rfl]
 have h00:aL .add (.int .i64 ((0:Nat):Int)) (.int .i64 ((0:Nat):Int))=some (.int .i64 0):=rfl;simp only [aS,reduceAdd,reduceEqDiff,reduceIte,qX,ct];rcases Tn hw hk with ⟨hb0,rfl,rfl⟩|⟨rfl,ho,nx,zk,hz,L,hF,hd,hh,T,hT,ic,hc⟩
 ·simp only [ep hb0,Bool.not_false,aF,decide_true,kl0,aS,reduceAdd,reduceEqDiff,reduceIte,ct,show k8.nE=0 from rfl,kl1,kl2,show (k8.eZ).l.length=0 from rfl,show (k8.parts).l.length=0 from rfl,h00];exact fin _
 obtain ⟨n,hn⟩:∃ n:Nat,s.size=(n:Int):=⟨s.size.toNat,by have:=(jS.1 ho.valid).lo;omega⟩
 have sV:s.size.toNat=n:=by omega
 have hF0:=hF;rw [sV] at hF hd hh hT ic;obtain ⟨m,gI⟩:=ho.iP.go;have n1:1<=n:=by have:=(jS.1 ho.valid).lo;omega
 have ov:n<=64:=by have:=(jS.1 ho.valid).hi;omega
 have TC:=CK ho gI hn hz hd;have Tm:=(nF TC).2;have sF:=gZ gI;have Bx:∀ r ∈ rules.l,kf n r (jY st):=fun r hr=>Zf ho gI hn TC hz (Le hd) hr;have aad:=Tl ho gI hn hz hF hd;have gd:∀ r ∈ rules.l,∀ vs,mX n r vs->iz n (cA (jY st)) r vs=iz n L r vs:=fun r hr vs ha=>Qb aad hr ha
 have vZ:∀ r ∈ rules.l,n ^ r.args.l.length<=4096:=fun r hr=>by
  rcases Nat.lt_or_ge 4096 (n ^ r.args.l.length) with h|h
  ·exact absurd (.inr (.inl ⟨r,hr,by rw [sV];exact h⟩)) ho.JF
  ·exact h
 have lf:yU n rules st (some (jY st)) (some (dG rules.l)) m:=⟨n1,ov,ho.iP.kH,fun r hr=>(sF r hr).2.1,iF,fun r hr=>(sF r hr).2.2,fun r hr=>mz (sF r hr).1,gI,by rw [hz,hn],Bx,vZ,rfl⟩
 simp only [show (!decide ((0:Int)=0))=false from rfl,aE,ko,kn,kt,aS,reduceAdd,reduceEqDiff,reduceIte];refine aj (aN (nm:=f.name) (t:=f.t) Tm TC lf rfl nx hh.1 zk.symm fun R hR hRs=>?_);have hR':S1 n L rules.l R:=⟨hR.le,fun nm t h=>by obtain ⟨u,a,b⟩:=hR.ok nm t h;exact ⟨u,a,b.congr gd⟩⟩
 have alw:sZ n L rules.l R:=fun r hr vs ha h=>hRs r hr vs ha (by rw [gd r hr vs ha];exact h);have aae:=PM hT ic hR' alw f.name f.t.l;have hmp:kz=20000:=rfl;simp only [aS,reduceAdd,reduceEqDiff,reduceIte];rcases hc with ⟨hTn,rfl,rfl⟩|⟨rfl,hbt,zH⟩
 ·have Ou:(20000:Int)<(R f.name f.t.l:Int):=by
   rcases Nat.lt_or_ge 20000 (R f.name f.t.l) with h|h
   ·omega
   ·obtain ⟨y,hy⟩:=aae.2 (by omega);rw [hTn] at hy;cases hy
  simp only [ey Ou,aF,ct,decide_true,kl0,aS,reduceAdd,reduceEqDiff,reduceIte,show k8.nE=0 from rfl,kl1,kl2,show (k8.eZ).l.length=0 from rfl,show (k8.parts).l.length=0 from rfl,h00];exact fin _
 obtain ⟨y,hy⟩:∃ y,T f.name f.t.l=some y:=by
  cases hbt with
  |mk _ _ i vs w r _ h1=>exact ⟨_,h1⟩
 have hle:=aae.1 ⟨y,hy⟩;have Ou:¬ (20000:Int)<(R f.name f.t.l:Int):=by omega
 simp only [ep Ou,aE,ct,decide_true,aF,klp,aS,reduceAdd,reduceEqDiff,reduceIte];refine aj (gy hT hbt zH fun mm m1 m2=>?_)
 have hwt:Ag T f.name f.t.l<=kz:=by
  unfold Ag;rw [hy];exact (hT.ok _ _ y.1 y.2.1 y.2.2 hy).1
 simp only [aS,reduceAdd,reduceEqDiff,reduceIte,ey (show (mm:Int)<=20000 by omega),aF,ko,kn,kt,klp];have Z6:sq n L rules.l (SizeOf.sizeOf p) p f.name f.t.l=true:=hbt.abN hT _ (dK _);refine aj (Lr n1 ho.iP.kH iF (fun r hr=>(sF r hr).2.2) Tm TC (by rw [hz,hn]) Bx (fun r hr=>mz (sF r hr).1) zH ?_);rw [SZ aad,Z6];simp only [aS,reduceAdd,reduceEqDiff,reduceIte,aF,ks,kn,kt,klp];refine aj (NA lu iF qu zH (fun e he=>absurd ho (vh he).2) fun _ b h1 h2=>?_);have hb:b=true:=by rw [h2 L hF0,sV];exact Z6
 subst hb;simp only [aS,reduceAdd,reduceEqDiff,reduceIte,aF];exact fin _
end
end Go.AM