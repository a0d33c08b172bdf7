/- Parts of the proof. Conditions: none. -/
import Derived.Test.YtfdanacohcffmaaGreatKo2
import Derived.Test.YtfdanacohcffmaaGreatKo10
import Derived.Test.YtfdanacohcffmaaGreatKo15
import Derived.Test.YtfdanacohcffmaaGreatKo18
set_option linter.unusedSimpArgs false
set_option linter.unusedVariables false
namespace Go.AM
open List Nat Bool Option
open Go Go.Proofs
noncomputable section
variable {h h':Heap} {K:Out->Heap->Bool} {i b ck k sz:Nat} {α:Type} {es:List Entry} {a:AV} {d:List Int} {l:List cc} {m:eE} {n v:Int} {s:cc}
def mS(n:Int):Bool:=(decide (97<=n)&&decide (n<=122))||(decide (65<=n)&&decide (n<=90))
def wL(n:Int):Bool:=decide (48<=n)&&decide (n<=57)
def words:List cc:=[[97,110,100],[111,114],[110,111,116],[115,111,109,101],[97,108,108],[108,102,112],[112,102,112],[116,99],[101,120,105,115,116,115],[116,114,117,101],[102,97,108,115,101]]
def CX(s:cc):Bool:=words.any fun w=>s==w
theorem yg(hK:K (.ret (.bool (mS n))) h=true):Sem TP 180 [.int .u8 n] h K:=by
 refine F.y8 ?_;rw [F.AE];simp only [qX,xR,aq,cE];unfold mS at hK;by_cases h1:97<=n<;>by_cases h2:n<=122<;>by_cases h3:65<=n<;>by_cases h4:n<=90<;>simpa [h1,h2,h3,h4] using hK
theorem Iu(hK:K (.ret (.bool (wL n))) h=true):Sem TP 182 [.int .u8 n] h K:=by
 refine F.AF ?_;rw [F.Cs];simp only [qX,xR,aq,cE];unfold wL at hK;by_cases h1:48<=n<;>by_cases h2:n<=57<;>simpa [h1,h2] using hK
theorem yh(hK:K (.ret (.bool (mS n))) h=true):Sem TP 150 [.int .u8 n] h K:=by
 refine F.y9 ?_;rw [F.AG];simp only [qX,xR,aq,cE];unfold mS at hK;by_cases h1:97<=n<;>by_cases h2:n<=122<;>by_cases h3:65<=n<;>by_cases h4:n<=90<;>simpa [h1,h2,h3,h4] using hK
theorem Iv(hK:K (.ret (.bool (wL n))) h=true):Sem TP 152 [.int .u8 n] h K:=by
 refine F.AH ?_;rw [F.Cu];simp only [qX,xR,aq,cE];unfold wL at hK;by_cases h1:48<=n<;>by_cases h2:n<=57<;>simpa [h1,h2] using hK
theorem Kw(hK:K (.ret (.bool (CX s))) h=true):Sem TP 181 [.str s] h K:=by
 refine F.Cr ?_;rw [F.Ef];simp only [Ci,aq,cE];simp only [CX,words,any_cons,any_nil,Bool.or_false] at hK
 repeat (first|exact hK|(generalize (s==_)=b at hK ⊢;cases b<;>simp only [aL,aK,Bool.true_or,Bool.false_or] at hK ⊢<;>try exact hK))
theorem Kx(hK:K (.ret (.bool (CX s))) h=true):Sem TP 151 [.str s] h K:=by
 refine F.Ct ?_;rw [F.Eg];simp only [Ci,aq,cE];simp only [CX,words,any_cons,any_nil,Bool.or_false] at hK
 repeat (first|exact hK|(generalize (s==_)=b at hK ⊢;cases b<;>simp only [aL,aK,Bool.true_or,Bool.false_or] at hK ⊢<;>try exact hK))
def okB(b:UInt8):Bool:=mS b.toNat||wL b.toNat
def ej(s:cc):Bool:=match s with
 |[]=>false
 |c :: _=>decide (s.length<=12)&&(mS c.toNat&&(!CX s&&s.all okB))
theorem jq{p:α->Bool}{l:List α}{a:α}(ha:l[i]?=some a)(ht:(l.take i).all p=true)(hp:p a=true):(l.take (i+1)).all p=true:=by
 rw [take_add_one,ha];simp [ht,hp]
theorem all_false{p:α->Bool}{l:List α}{a:α}(ha:l[i]?=some a)(hp:p a=false):l.all p=false:=by
 rw [eq_false_iff];intro h;rw [List.all_eq_true] at h;have:=h a (iq ha);rw [hp] at this;cases this
theorem ep{s:cc}{h:Heap}{K:Out->Heap->Bool}(hK:K (.ret (.bool (ej s))) h=true):Sem TP 153 [.str s] h K:=by
 refine F.Cp ?_;rw [F.Ed]
 cases s with
 |nil=>simpa [ej,nD,qW,aA,ag] using hK
 |cons c s'=>
  have h0:(c :: s')[0]?=some c:=rfl;simp only [nD,qW,Gt,aq,cE];have h1:decide (((c :: s').length:Int)<1)=false:=by simp;omega
  simp only [h1,aK];by_cases h2:(c :: s').length<=12
  ·have h3:decide ((12:Int)<((c :: s').length:Int))=false:=by simp at h2 ⊢;omega
   simp only [h3,aK];rw [show kT (.str (c :: s')) (.int .i64 0)=some (.int .u8 (c.toNat:Int)) from Bx (i:=0) h0];simp only [aq];refine ai (yg ?_);simp only [kJ,oC,aq,cE]
   cases hl:mS c.toNat with
   |false=>simpa [ej,hl] using hK
   |true=>
    simp only [Bool.not_true,aK];refine ai (Kw ?_);simp only [kJ,cE]
    cases hw:CX (c :: s') with
    |true=>simpa [ej,hl,hw] using hK
    |false=>
     simp only [aK];have hn:ej (c :: s')=(c :: s').all okB:=by simp only [ej,hl,hw,Bool.not_false,Bool.true_and];rw [fC h2,Bool.true_and]
     rw [hn] at hK;have h4:((c :: s').take 1).all okB=true:=by simp [okB,hl]
     have h5:1<=(c :: s').length:=(by simp);clear h0 h1 h3 hl hw hn;generalize (c :: s')=s at hK h2 h4 h5 ⊢;refine aE 1 s.length h5 (fun i e h'=>h'=h/\e 0 = .str s/\e 3 = .int .i64 (i:Int)/\(s.take i).all okB=true) ⟨rfl,rfl,rfl,h4⟩ ?_ ?_
     ·rintro i e h' _ hi ⟨rfl,e0,e3,ht⟩ K' hn hx hr hp;have hb:s[i]?=some s[i]:=ew hi;have hlt:decide ((i:Int)<(s.length:Int))=true:=by simp;omega
      rw [F.ep.aU];simp only [e0,e3,nD,qW,Bx hb,aq,cE,hlt,aL];refine ai (yg ?_);simp only [kJ,oC,aq,cE]
      cases hl:mS s[i].toNat with
      |true=>
       simp only [Bool.not_true,aK,je (a:=(i:Int)) (b:=1) (by omega) (by omega),aq];exact hn _ _ ⟨rfl,e0,rfl,jq hb ht (by simp [okB,hl])⟩
      |false=>
       simp only [Bool.not_false,aL];refine ai (Iu ?_);simp only [kJ,oC,aq,cE]
       cases hd:wL s[i].toNat with
       |true=>
        simp only [Bool.not_true,aK,je (a:=(i:Int)) (b:=1) (by omega) (by omega),aq];exact hn _ _ ⟨rfl,e0,rfl,jq hb ht (by simp [okB,hd])⟩
       |false=>
        simp only [Bool.not_false,aL];rw [hr,F.ep.bz];have:s.all okB=false:=all_false hb (by simp [okB,hl,hd]);rw [this] at hK;exact hK
     ·rintro e h' ⟨rfl,e0,e3,ht⟩ K' hx;have hlt:decide ((s.length:Int)<(s.length:Int))=false:=by simp
      rw [F.ep.aU];simp only [e0,e3,nD,qW,aq,cE,hlt,aK];rw [hx,F.ep.aG];rw [jW (dN _)] at ht;rw [ht] at hK;exact hK
  ·have h3:decide ((12:Int)<((c :: s').length:Int))=true:=by simp at h2 ⊢;omega
   simp only [h3,aL];have:ej (c :: s')=false:=by simp only [ej];rw [eV h2];rfl
   rw [this] at hK;exact hK
theorem dS{s:cc}{h:Heap}{K:Out->Heap->Bool}(hK:K (.ret (.bool (ej s))) h=true):Sem TP 107 [.str s] h K:=by
 refine F.Cq ?_;rw [F.Ee]
 cases s with
 |nil=>simpa [ej,Ci,aA,ag] using hK
 |cons c s'=>
  have h0:(c :: s')[0]?=some c:=rfl;have h1:((c :: s')==([]:cc))=false:=rfl;simp only [nD,Ci,Gt,aq,cE,h1,aK];by_cases h2:(c :: s').length<=12
  ·have h3:decide ((12:Int)<((c :: s').length:Int))=false:=by simp at h2 ⊢;omega
   simp only [h3,aK];rw [show kT (.str (c :: s')) (.int .i64 0)=some (.int .u8 (c.toNat:Int)) from Bx (i:=0) h0];simp only [aq];refine ai (yh ?_);simp only [kJ,oC,aq,cE]
   cases hl:mS c.toNat with
   |false=>simpa [ej,hl] using hK
   |true=>
    simp only [Bool.not_true,aK];refine ai (Kx ?_);simp only [kJ,cE]
    cases hw:CX (c :: s') with
    |true=>simpa [ej,hl,hw] using hK
    |false=>
     simp only [aK,nD,aq];have hn:ej (c :: s')=(c :: s').all okB:=by simp only [ej,hl,hw,Bool.not_false,Bool.true_and];rw [fC h2,Bool.true_and]
     rw [hn] at hK;have h4:((c :: s').take 1).all okB=true:=by simp [okB,hl]
     have h5:1<=(c :: s').length:=(by simp);clear h0 h1 h3 hl hw hn;generalize (c :: s')=s at hK h2 h4 h5 ⊢;refine aE 0 s.length (zero_le _) (fun i e h'=>h'=h/\e 0 = .str s/\e 23 = .int .i64 (i:Int)/\e 22 = .int .i64 (s.length:Int)/\(s.take i).all okB=true) ⟨rfl,rfl,rfl,rfl,rfl⟩ ?_ ?_
     ·rintro i e h' _ hi ⟨rfl,e0,e3,A9,ht⟩ K' hn hx hr hp;have hb:s[i]?=some s[i]:=ew hi;have hlt:decide ((i:Int)<(s.length:Int))=true:=by simp;omega
      rw [F.dS.aU];simp only [e0,e3,A9,nD,qW,Bx hb,aq,cE,hlt,aL];refine ai (yh ?_);simp only [kJ,oC,aq,cE]
      cases hl:mS s[i].toNat with
      |true=>
       simp only [Bool.not_true,aK,je (a:=(i:Int)) (b:=1) (by omega) (by omega),aq];exact hn _ _ ⟨rfl,e0,rfl,A9,jq hb ht (by simp [okB,hl])⟩
      |false=>
       simp only [Bool.not_false,aL];refine ai (Iv ?_);simp only [kJ,oC,aq,cE]
       cases hd:wL s[i].toNat with
       |true=>
        simp only [Bool.not_true,aK,je (a:=(i:Int)) (b:=1) (by omega) (by omega),aq];exact hn _ _ ⟨rfl,e0,rfl,A9,jq hb ht (by simp [okB,hd])⟩
       |false=>
        simp only [Bool.not_false,aL];rw [hr,F.dS.bz];have:s.all okB=false:=all_false hb (by simp [okB,hl,hd]);rw [this] at hK;exact hK
     ·rintro e h' ⟨rfl,e0,e3,A9,ht⟩ K' hx;have hlt:decide ((s.length:Int)<(s.length:Int))=false:=by simp
      rw [F.dS.aU];simp only [e0,e3,A9,nD,qW,aq,cE,hlt,aK];rw [hx,F.dS.aG];rw [jW (dN _)] at ht;rw [ht] at hK;exact hK
  ·have h3:decide ((12:Int)<((c :: s').length:Int))=true:=by simp at h2 ⊢;omega
   simp only [h3,aL];have:ej (c :: s')=false:=by simp only [ej];rw [eV h2];rfl
   rw [this] at hK;exact hK
theorem iW{x:Sl Int}(hv:x.l[i]?=some v):ah none (.dQ (x.l.flatMap encI) (i*1)) h=some (.int .i64 v):=by
 rw [wq mX hv];rfl
def jy(n:Int)(l:List Int):Bool:=l.all fun x=>!decide (x<0)&&!decide (n<=x)
def iv(n:Int):AV:=.int .i64 n
theorem tj(d:List Int):d.map iv=d.flatMap encI:=by
 induction d with
 |nil=>rfl
 |cons a d ih=>rw [map_cons,flatMap_cons,ih];rfl
theorem nt{n:Nat}{k:IntKind}(h:i<n):dM 1 (.slice b 0 n 1) (.int k (i:Int))=some (.ptr b i):=by simp [dM,asNat,h]
theorem nE(hb:h.get b=some (.cells (d.map iv)))(hv:d[i]?=some v):ah none (.ptr b i) h=some (.int .i64 v):=by
 rw [ak hb,ur,getElem?_map,hv];rfl
theorem yj(hb:h.get b=some (.cells (d.map iv)))(hi:i<d.length):aZ 1 (.ptr b i) (.int .i64 v) h=some (h.set b (.cells ((d.set i v).map iv))):=by
 rw [cB (n:=1) hb rfl rfl (by simp;omega),map_set];rfl
theorem VM(n:Nat):jb [.int .i64 0] n=(replicate n (0:Int)).map iv:=by
 induction n with
 |zero=>rfl
 |succ n ih=>rw [jb,ih];rfl
theorem By{n:Nat}(hn:n<=1000000)(h:Heap):gG 1 8 [.int .i64 0] (.int .i64 (n:Int)) (.int .i64 (n:Int)) h=some (.slice h.next 0 n 1,h.alloc (.cells ((replicate n (0:Int)).map iv))):=by
 have:(8*(n:Int))<=140737488355328:=by omega
 simp [gG,yK,this,VM]
theorem Iw(hb:h.get b=some (.cells (d.map iv))):Fz true h (.slice b 0 d.length 1) (an encI 1 (some d)):=by
 refine .slice b 0 d.length 1 _ _ hb (by rw [tj]) fun i x y hx hy=>?_;rw [tj,hy] at hx;cases hx;rw [<- tj,getElem?_map] at hy;obtain ⟨v,hv,rfl⟩:=map_eq_some_iff.1 hy;exact .scalar _ rfl
theorem Pk{n:Nat}(h1:1<=n)(h2:n<=cM):aI .sub (.int .i64 (n:Int)) (.int .i64 1)=some (.int .i64 ((n-1:Nat):Int)):=by
 unfold cM at h2;rw [uu (by omega) (by omega)];congr 2;omega
theorem Pm(a b:Int):∃ v,aI .add (.int .i64 a) (.int .i64 b)=some (.int .i64 v):=⟨_,RF a b⟩
def vp(n:Nat):List Int->Nat->Nat
 |[],r=>r
 |x :: l,r=>vp n l (r*n+x.toNat)
def ni(n:Nat)(l:List Int):Nat:=vp n l 0
inductive Own {α:Type} (enc:α->List AV) (sz k:Nat) (h:Heap):AV->List α->Prop
 |nil:Own enc sz k h .ay []
 |row (b:Nat) (l:List α):k<=b->b<h.next->h.get b=some (.cells (l.flatMap enc))->Own enc sz k h (.slice b 0 l.length sz) l
variable {α:Type} {enc:α->List AV} {sz k:Nat}
theorem Own.len{l:List α}(o:Own enc sz k h a l):bX .slice a h'=some (.int .i64 (l.length:Int)):=by
 cases o<;>rfl
theorem Own.ext{l:List α}(o:Own enc sz k h a l)(hx:bC h h'):Own enc sz k h' a l:=by
 cases o with
 |nil=>exact .nil
 |row b l h1 h2 h3=>exact .row b l h1 (Nat.lt_of_lt_of_le h2 hx.next) (by rw [hx.get b h2];exact h3)
theorem Own.get{l:List α}(o:Own enc sz k h a l)(he:∀ x,(enc x).length=sz){v:α}(hv:l[i]?=some v) :
  ∃ b,k<=b/\b<h.next/\(∀ q:IntKind,dM sz a (.int q (i:Int))=some (.ptr b (i*sz)))/\ah (some sz) (.ptr b (i*sz)) h=some (.agg (enc v))/\∀ m,m<sz->ah none (.ptr b (i*sz+m)) h=(enc v)[m]?:=by
 cases o with
 |nil=>simp at hv
 |row b l h1 h2 h3=>
  have hi:=(ki.1 hv).1;refine ⟨b,h1,h2,fun q=>by simp [dM,asNat,hi],?_,fun m hm=>by rw [ak h3,ur,pE he l i m v hv hm]⟩;rw [ak h3];have hp:=nC he l i v hv;simp only [ji]
  have hlen:i*sz+sz<=(l.flatMap enc).length:=by
   rw [fV he];have:(i+1)*sz<=l.length*sz:=mul_le_mul_right sz hi;rw [succ_mul] at this;exact this
  rw [if_pos (by simpa using hlen),hp]
section
variable {α:Type} {enc:α->List AV} {sz k:Nat}
structure Row (enc:α->List AV) (sz:Nat) (h:Heap) (x:AV) (l:List α):Prop where
 len:lH x=some l.length
 cells:iu sz l.length x h=some (l.flatMap enc)
theorem Fl(he:∀ x,(enc x).length=sz):∀ (l:List α) (i:Nat),(l.flatMap enc).take (i*sz)=(l.take i).flatMap enc
 |[],i=>by simp
 |x :: l,0=>by simp
 |x :: l,i+1=>by
  rw [flatMap_cons,take_succ_cons,flatMap_cons,take_append,he,succ_mul,Nat.add_sub_cancel,Fl he l i,jW (by rw [he];omega)]
theorem Fm(he:∀ x,(enc x).length=sz):∀ (l:List α) (i:Nat),(l.flatMap enc).drop (i*sz)=(l.drop i).flatMap enc
 |[],i=>by simp
 |x :: l,0=>by simp
 |x :: l,i+1=>by
  rw [flatMap_cons,drop_succ_cons,drop_append,he,succ_mul,Nat.add_sub_cancel,Fm he l i,drop_of_length_le (by rw [he];omega),nil_append]
theorem Own.S4{l:List α}(o:Own enc sz k h a l)(he:∀ x,(enc x).length=sz)(hi:i<=l.length) :
  ∃ x,(∀ q:IntKind,iT (some sz) a none (some (.int q (i:Int)))=some x)/\∀ h',bC h h'->Row enc sz h' x (l.take i):=by
 cases o with
 |nil=>simp at hi;subst hi;exact ⟨.ay,fun q=>by simp [iT,lH,pN,asNat],fun h' _=>⟨rfl,rfl⟩⟩
 |row b l h1 h2 h3=>
  refine ⟨.slice b 0 i sz,fun q=>by simp [iT,lH,pN,asNat,hi],fun h' hx=>⟨by simp [lH,Nat.min_eq_left hi],?_⟩⟩;have h3':h'.get b=some (.cells (l.flatMap enc)):=by rw [hx.get b h2];exact h3
  have hl:(l.flatMap enc).length=l.length*sz:=fV he l;have hm:(l.take i).length=i:=by rw [length_take,Nat.min_eq_left hi]
  simp only [iu,h3',if_true,Nat.zero_add,hl,hm,drop_zero];rw [if_pos (mul_le_mul_right sz hi),Fl he]
theorem Own.S5{l:List α}(o:Own enc sz k h a l)(he:∀ x,(enc x).length=sz)(hi:i<=l.length) :
  ∃ x,(∀ q:IntKind,iT (some sz) a (some (.int q (i:Int))) none=some x)/\∀ h',bC h h'->Row enc sz h' x (l.drop i):=by
 cases o with
 |nil=>simp at hi;subst hi;exact ⟨.ay,fun q=>by simp [iT,lH,pN,asNat],fun h' _=>⟨rfl,rfl⟩⟩
 |row b l h1 h2 h3=>
  refine ⟨.slice b (i*sz) (l.length-i) sz,fun q=>by simp [iT,lH,pN,asNat,hi],fun h' hx=>⟨by simp [lH],?_⟩⟩;have h3':h'.get b=some (.cells (l.flatMap enc)):=by rw [hx.get b h2];exact h3
  have hl:(l.flatMap enc).length=l.length*sz:=fV he l;have hm:(l.drop i).length=l.length-i:=by rw [length_drop]
  simp only [iu,h3',if_true,hl,hm];have hle:i*sz+(l.length-i)*sz<=l.length*sz:=by rw [<- Nat.add_mul];exact mul_le_mul_right sz (by omega)
  rw [if_pos hle,Fm he,jW];rw [fV he,hm];exact dN _
theorem tq(h1:∀ x,bw (enc x)=true):∀ l:List α,bw (l.flatMap enc)=true
 |[]=>rfl
 |x :: l=>by
  have app:∀ a b:List AV,bw a=true->bw b=true->bw (a++b)=true:=by
   intro a b ha hb
   induction a with
   |nil=>exact hb
   |cons y a ih=>
    simp only [bw,cons_append,and_eq_true] at ha ⊢;exact ⟨ha.1,ih ha.2⟩
  rw [flatMap_cons];exact app _ _ (h1 x) (tq h1 l)
def cz:AV->Option Nat
 |.slice b _ _ _=>some b
 |_=>none
theorem Own.append{x:AV}{l m:List α}(o:Own enc sz k h a l)(he:∀ x,(enc x).length=sz)(h1:∀ x,bw (enc x)=true)(r:Row enc sz h x m)(hk:k<=h.next){bytes:Nat}(hroom:(l.length+m.length)*bytes<=cJ) :
  ∃ a' h',cj sz bytes a x h=some (a',h')/\Own enc sz k h' a' (l++m)/\(∀ c,c<h.next->cz a≠some c->h'.get c=h.get c)/\h.next<=h'.next/\(m≠[]->∀ c,cz a'=some c->h.next<=c):=by
 cases o with
 |nil=>
  rw [length_nil,Nat.zero_add] at hroom
  cases m with
  |nil=>
   refine ⟨.ay,h,?_,.nil,fun _ _ _=>rfl,dN _,fun h=>absurd rfl h⟩;have hc:=r.cells;have hl:=r.len;simp only [length_nil] at hc hl;simp [cj,hl,hc]
  |cons y m=>
   refine ⟨.slice h.next 0 (y :: m).length sz,h.alloc (.cells ((y :: m).flatMap enc)),?_,.row _ _ hk (lt_succ_self _) (aB _ _),fun c hc _=>by rw [Heap.aW,if_neg (by omega)],le_succ _,fun _ c hc=>by cases hc;exact dN _⟩;have h0:¬ (y :: m).length=0:=by simp
   simp only [cj,r.len,r.cells,if_neg h0];rw [if_pos (by rw [and_eq_true];exact ⟨fC hroom,tq h1 _⟩)]
 |row b l hb1 hb2 hb3=>
  cases m with
  |nil=>
   rw [append_nil];refine ⟨.slice b 0 l.length sz,h,?_,.row b l hb1 hb2 hb3,fun _ _ _=>rfl,dN _,fun h=>absurd rfl h⟩;have hc:=r.cells;have hl:=r.len;simp only [length_nil] at hc hl;simp [cj,hl,hc]
  |cons y m=>
   have h0:¬ (y :: m).length=0:=by simp
   have hl:(l.flatMap enc).length=l.length*sz:=fV he l;refine ⟨.slice h.next 0 (l++y :: m).length sz,(h.set b .dead).alloc (.cells ((l++y :: m).flatMap enc)),?_,.row _ _ hk ?_ ?_,fun c hc hne=>?_,?_,fun _ c hc=>by cases hc;exact dN _⟩
   ·simp only [cj,r.len,r.cells,if_neg h0,if_true,hb3,drop_zero,Nat.zero_add];rw [if_pos (by rw [and_eq_true,and_eq_true];exact ⟨⟨fC hroom,tq h1 _⟩,fC (by omega)⟩),<- hl,take_length,flatMap_append,length_append]
   ·rw [Heap.aM,Heap.br];omega
   ·have:=aB (h.set b .dead) (.cells ((l++y :: m).flatMap enc))
    rwa [Heap.br] at this
   ·rw [Heap.aW,Heap.br,if_neg (by omega),Heap.aN,if_neg (fun e=>hne (by rw [e];rfl))]
   ·rw [Heap.aM,Heap.br];omega
end
theorem oG(s:cc):bw (encS s)=true:=rfl
def strLt(a b:cc):Bool:=Op.bytesLess a b
def eL:List cc->cc->List cc
 |[],s=>[s]
 |x :: l,s=>if strLt x s=true then x :: eL l s else if x=s then x :: l else s :: x :: l
theorem S6(a b:cc):aI .lss (.str a) (.str b)=some (.bool (strLt a b)):=by simp [aI,strLt]
theorem rA(a b:cc):(a==b)=decide (a=b):=by
 by_cases h:a=b
 ·subst h;simp
 ·rw [eV h];simp [h]
theorem Ix{x:cc}(hx:l[i]?=some x):l.take i++eL (l.drop i) s=if strLt x s=true then l.take (i+1)++eL (l.drop (i+1)) s else if x=s then l else l.take i++(s :: l.drop i):=by
 have h1:=(ki.1 hx).1
 have hd:l.drop i=x :: l.drop (i+1):=by
  rw [drop_eq_getElem_cons h1];rw [ew h1] at hx;cases hx;rfl
 rw [hd,eL];split
 ·rw [take_add_one,hx];simp
 ·split
  ·rw [<- hd,take_append_drop]
  ·rfl
theorem Own.ge{enc:α->List AV}{l:List α}(o:Own enc sz k h a l){c:Nat}(hc:cz a=some c):k<=c:=by
 cases o with
 |nil=>cases hc
 |row b l h1 _ _=>cases hc;exact h1
theorem Own.CY{enc:α->List AV}{j:Nat}{l:List α}(o:Own enc sz k h a l)(hj:j<=k):Own enc sz j h a l:=by
 cases o with
 |nil=>exact .nil
 |row b l h1 h2 h3=>exact .row b l (Nat.le_trans hj h1) h2 h3
theorem ez{k:Nat}{h:Heap}{a:AV}{l:List cc}{s:cc}(o:Own encS 1 k h a l)(hk:k<=h.next)(hl:l.length<=100000){K:Out->Heap->Bool}
  (hK:∀ a' h',bC h h'->Own encS 1 k h' a' (eL l s)->K (.ret a') h'=true):Sem TP 79 [a,.str s] h K:=by
 have hbig:l.length<=cM:=by unfold cM;omega
 refine F.za ?_;rw [F.AJ]
 have app:∀ i,i<=l.length->eL l s=l.take i++(s :: l.drop i)->∀ e:Env,e 0=a->e 1 = .str s->e 5 = .int .i64 (i:Int) ->
   (ag (fZ [] [] []) fun c11=>
    ag (iT (some 1) (e 0) none (some (e 5))) fun x12=>
    ag (fZ [(.str [])] [(0,1)] [(e 1)]) fun c13=>
    ag (iT (some 1) (e 0) (some (e 5)) none) fun x14=>
    dg (cj 1 16 (.slice (Heap.next h) 0 0 1) x12 (Heap.alloc (Heap.alloc h (.cells c11)) (.cells c13))) fun x15 h16=>
    dg (cj 1 16 x15 (.slice (Heap.next (Heap.alloc h (.cells c11))) 0 1 1) h16) fun x17 h18=>
    dg (cj 1 16 x17 x14 h18) fun x19 uD=>
    K (.ret x19) uD)=true:=by
  intro i hi he e e0 e1 e5;obtain ⟨x12,ada,r12⟩:=o.S4 iC hi;obtain ⟨x14,adb,r14⟩:=o.S5 iC hi;rw [show fZ [] [] []=some [] from rfl];simp only [aq,e0,e1,e5,ada,adb];rw [show fZ [(.str [])] [(0,1)] [.str s]=some [.str s] from rfl];simp only [aq];have jI:bC h (Heap.alloc (Heap.alloc h (.cells [])) (.cells [.str s])):=(bC.alloc _ _).trans (bC.alloc _ _)
  have g0:(Heap.alloc (Heap.alloc h (.cells [])) (.cells [.str s])).get h.next=some (.cells []):=by
   rw [Heap.aW,Heap.aM,if_neg (by omega)];exact aB _ _
  have g1:(Heap.alloc (Heap.alloc h (.cells [])) (.cells [.str s])).get (h.next+1)=some (.cells [.str s]):=aB _ _;have gn:(Heap.alloc (Heap.alloc h (.cells [])) (.cells [.str s])).next=h.next+2:=rfl
  rw [Heap.aM];generalize (Heap.alloc (Heap.alloc h (.cells [])) (.cells [.str s]))=H at jI g0 g1 gn ⊢;have o0:Own encS 1 h.next H (.slice h.next 0 0 1) ([]:List cc):=.row h.next [] (dN _) (by omega) g0
  have hm:cJ=140737488355328:=rfl;have lt:(l.take i).length=i:=by rw [length_take,Nat.min_eq_left hi]
  have ld:(l.drop i).length=l.length-i:=length_drop;obtain ⟨a1,h1,p1,o1,f1,n1,_⟩:=o0.append iC oG (r12 H jI) (by omega) (bytes:=16) (by rw [hm,lt,length_nil];omega);simp only [p1,ja];have q1:h1.get (h.next+1)=some (.cells [.str s]):=by rw [f1 _ (by omega) (by simp [cz])];exact g1
  have rs:Row encS 1 h1 (.slice (h.next+1) 0 1 1) [s]:=⟨rfl,by simp [iu,q1,encS]⟩
  have e1x:bC h h1:=⟨by have:=jI.next;omega,fun c hc=>by rw [f1 c (by omega) (by simp [cz];omega)];exact jI.get c hc⟩
  obtain ⟨a2,h2,p2,o2,f2,n2,_⟩:=o1.append iC oG rs (by omega) (bytes:=16) (by rw [hm,nil_append,lt];simp;omega);simp only [p2,ja];have e2x:bC h h2:=⟨by have:=e1x.next;omega,fun c hc=>by rw [f2 c (by have:=e1x.next;omega) (fun hb=>by have:=o1.ge hb;omega)];exact e1x.get c hc⟩
  obtain ⟨a3,h3,p3,o3,f3,n3,_⟩:=o2.append iC oG (r14 h2 e2x) (by have:=e2x.next;omega) (bytes:=16) (by rw [hm,ld,nil_append,length_append,lt];simp;omega);simp only [p3,ja];have e3x:bC h h3:=⟨by have:=e2x.next;omega,fun c hc=>by rw [f3 c (by have:=e2x.next;omega) (fun hb=>by have:=o2.ge hb;omega)];exact e2x.get c hc⟩
  refine hK a3 h3 e3x ?_;rw [he];have:=o3.CY hk;rw [nil_append,append_assoc] at this;exact this
 have get:∀ (i:Nat) (x:cc),l[i]?=some x->∃ b,(∀ q:IntKind,dM 1 a (.int q (i:Int))=some (.ptr b (i*1)))/\ah none (.ptr b (i*1)) h=some (.str x):=fun i x hx=>by
  obtain ⟨b,_,_,h3,_,h5⟩:=o.get iC hx;exact ⟨b,h3,by have:=h5 0 (by omega);rw [Nat.add_zero] at this;rw [this];rfl⟩
 refine aE 0 l.length (zero_le _) (fun i e h'=>h'=h/\e 0=a/\e 1 = .str s/\e 5 = .int .i64 (i:Int)/\eL l s=l.take i++eL (l.drop i) s) ⟨rfl,rfl,rfl,rfl,rfl⟩ ?_ ?_
 ·rintro i e h' _ hi ⟨rfl,e0,e1,e5,ht⟩ K' hn hx hr hp;have hv:l[i]?=some l[i]:=ew hi;generalize l[i]=x at hv;obtain ⟨b,g1,g2⟩:=get i x hv;rw [Ix hv] at ht;rw [F.ez.aU];simp only [e0,e1,e5,o.len,aS,reduceAdd,reduceEqDiff,reduceIte,bp hi,g1,g2,S6]
  cases hlt:strLt x s with
  |true=>
   rw [if_pos hlt] at ht;simp only [aL,aJ hi hbig,aq];exact hn _ _ ⟨rfl,e0,e1,rfl,ht⟩
  |false=>
   rw [if_neg (by rw [hlt];decide)] at ht;simp only [aK];rw [hx,F.ez.aG];simp only [aS,reduceAdd,reduceEqDiff,reduceIte,e0,e1,e5,o.len,bp hi,g1,g2,aL,rA];by_cases QJ:x=s
   ·rw [if_pos QJ] at ht;simp only [fC QJ,aL];exact hK _ _ (bC.refl _) (by rw [ht];exact o)
   ·rw [if_neg QJ] at ht;simp only [eV QJ,aK];have:=app i (Nat.le_of_lt hi) ht e e0 e1 e5;simp only [e0,e1,e5] at this;exact this
 ·rintro e h' ⟨rfl,e0,e1,e5,ht⟩ K' hx;rw [F.ez.aU];simp only [e0,e5,o.len,aS,reduceAdd,reduceEqDiff,reduceIte,aX];rw [hx,F.ez.aG];simp only [aS,reduceAdd,reduceEqDiff,reduceIte,e0,e1,e5,o.len,aX,aK];have:=app l.length (dN _) (by rw [ht,drop_of_length_le (dN _)];rfl) e e0 e1 e5;simp only [e0,e1,e5] at this;exact this
structure jT (es:List Entry) (ck:Nat):Prop where
 nodup:(es.map (·.2.2)).Nodup
 lt:∀ e ∈ es,e.2.2<ck
theorem jT.nil(ck:Nat):jT [] ck:=⟨nodup_nil,fun _ h=>by cases h⟩
theorem jT.push(b:jT es ck)(k v:AV):jT (es++[(k,v,ck)]) (ck+1):=by
 refine ⟨?_,fun e he=>?_⟩
 ·rw [map_append,nodup_append];refine ⟨b.nodup,by simp,fun a ha c hc=>?_⟩;rw [mem_map] at ha;obtain ⟨e,he,rfl⟩:=ha;have:=b.lt e he;simp at hc;omega
 ·rw [mem_append] at he;rcases he with he|he
  ·have:=b.lt e he;omega
  ·simp at he;rw [he];exact lt_succ_self _
theorem Iy(es:List Entry)(i:Nat)(v:AV):(eZ es i v).map (·.2.2)=es.map (·.2.2):=by
 unfold eZ
 cases h:es[i]? with
 |none=>rfl
 |some e=>
  simp only [map_set];apply ext_getElem?;intro j;by_cases hj:i=j
  ·subst hj;have hi:=(ki.1 h).1;rw [getElem?_set_self (by simpa using hi),getElem?_map,h];rfl
  ·rw [getElem?_set_ne hj]
theorem jT.set(b:jT es ck)(i:Nat)(v:AV):jT (eZ es i v) ck:=by
 refine ⟨by rw [Iy];exact b.nodup,fun e he=>?_⟩;have:e.2.2 ∈ (eZ es i v).map (·.2.2):=List.mem_map_of_mem he;rw [Iy,mem_map] at this;obtain ⟨e',Xm,h⟩:=this;rw [<- h];exact b.lt e' Xm
theorem vM{d:TypeDesc}{xA:List Entry}{Gu:Nat}{k v:AV}(hb:h.get b=some (.map es ck))(hB:jT es ck)(hu:eS d (.map b) k v h=some h')(hg:h'.get b=some (.map xA Gu)):jT xA Gu:=by
 simp only [eS,hb] at hu;split at hu
 ·cases hu;rw [Heap.aN,if_pos rfl] at hg;cases hg;exact hB.set _ _
 ·cases hu;rw [Heap.aN,if_pos rfl] at hg;cases hg;exact hB.push k v
 ·cases hu
abbrev mK:=List (cc×AV)
def mK.find(m:mK)(k:cc):Option AV:=(List.find? (fun p=>k==p.1) m).map (·.2)
def mK.qY:mK->cc->AV->mK
 |[],k,v=>[(k,v)]
 |p :: m,k,v=>if k==p.1 then (p.1,v) :: m else p :: mK.qY m k v
def tr:List Entry->mK->Prop
 |[],[]=>True
 |e :: es,p :: m=>e.1 = .str p.1/\e.2.1=p.2/\tr es m
 |_,_=>False
theorem tr.jD{k:cc}:∀ {es:List Entry} {m:mK} (i:Nat),tr es m->∃ r,jD .string (.str k) es i=some r/\match r with
  |none=>m.find k=none
  |some (j,v)=>∃ n,j=i+n/\m.find k=some v/\∀ w,tr (eZ es n w) (m.qY k w)
 |[],[],i,_=>⟨none,rfl,rfl⟩
 |e :: es,p :: m,i,⟨h1,h2,h3⟩=>by
  obtain ⟨ek,ev,en⟩:=e;simp only at h1 h2;subst h1;subst h2;by_cases hk:k=p.1
  ·subst hk;refine ⟨some (i,p.2),by simp [Go.AM.jD,vA],0,rfl,by simp [mK.find],fun w=>?_⟩;simp [eZ,tr,mK.qY,h3]
  ·obtain ⟨r,hr,hm⟩:=tr.jD (k:=k) (i+1) h3;have Vr:(k==p.1)=false:=by simpa using hk
   refine ⟨r,by simp only [Go.AM.jD,vA,Vr,hr],?_⟩
   cases r with
   |none=>simpa [mK.find,hk] using hm
   |some jv=>
    obtain ⟨n,a,b,e⟩:=hm;refine ⟨n+1,by omega,by simpa [mK.find,hk] using b,fun w=>?_⟩;have:=e w;simp only [eZ,getElem?_cons_succ,mK.qY,Vr] at this ⊢;split at this<;>simp_all [tr]
theorem tr.append{m:mK}(h:tr es m){k:cc}(hk:m.find k=none)(v:AV)(n:Nat):tr (es++[(.str k,v,n)]) (m.qY k v):=by
 induction es generalizing m with
 |nil=>cases m with
  |nil=>simp [tr,mK.qY]
  |cons p m=>exact h.elim
 |cons e es ih=>cases m with
  |nil=>exact h.elim
  |cons p m=>
   obtain ⟨h1,h2,h3⟩:=h;have hne:k≠p.1:=fun e=>by subst e;simp [mK.find] at hk
   have XK:mK.find m k=none:=by simpa [mK.find,hne] using hk
   have:=ih h3 XK;simp only [cons_append,mK.qY];rw [if_neg (by simpa using hne)];exact ⟨h1,h2,this⟩
theorem tu(o:Own encS 1 k h a l){x:cc}(hx:l[i]?=some x) :
  ∃ b,b<h.next/\(∀ q:IntKind,dM 1 a (.int q (i:Int))=some (.ptr b (i*1)))/\ah none (.ptr b (i*1)) h=some (.str x):=by
 obtain ⟨b,_,h2,h3,_,h5⟩:=o.get iC hx;exact ⟨b,h2,h3,by have:=h5 0 (by omega);rw [Nat.add_zero] at this;rw [this];rfl⟩
theorem yl{p:α->Bool}{l:List α}{a:α}(ha:l[i]?=some a)(ht:(l.take i).any p=false)(hp:p a=false):(l.take (i+1)).any p=false:=by
 rw [take_add_one,ha];simp [ht,hp]
theorem dA{k:Nat}{h:Heap}{a:AV}{l:List cc}{s:cc}(o:Own encS 1 k h a l)(hl:l.length<=cM){K:Out->Heap->Bool}(hK:K (.ret (.bool (l.any fun x=>x==s))) h=true):Sem TP 86 [a,.str s] h K:=by
 refine F.rO ?_;rw [F.sR];refine aE 0 l.length (zero_le _) (fun i e h'=>h'=h/\e 0=a/\e 1 = .str s/\e 5 = .int .i64 (i:Int)/\((l.take i).any fun x=>x==s)=false) ⟨rfl,rfl,rfl,rfl,rfl⟩ ?_ ?_
 ·rintro i e h' _ hi ⟨rfl,e0,e1,e5,ht⟩ K' hn hx hr hp;have hv:l[i]?=some l[i]:=ew hi;generalize l[i]=x at hv;obtain ⟨b,_,g1,g2⟩:=tu o hv;rw [F.dA.aU];simp only [e0,e1,e5,o.len,aS,reduceAdd,reduceEqDiff,reduceIte,bp hi,g1,g2]
  cases hq:x==s with
  |true=>
   simp only [aL];rw [hr,F.dA.bz];simp only [bP,reduceEqDiff,reduceIte];rw [List.any_eq_true.2 ⟨x,iq hv,hq⟩] at hK;exact hK
  |false=>
   simp only [aK,aJ hi hl,aq];exact hn _ _ ⟨rfl,e0,e1,rfl,yl hv ht hq⟩
 ·rintro e h' ⟨rfl,e0,e1,e5,ht⟩ K' hx;rw [F.dA.aU];simp only [e0,e5,o.len,aS,reduceAdd,reduceEqDiff,reduceIte,aX];rw [hx,F.dA.aG];rw [jW (dN _)] at ht;rw [ht] at hK;exact hK
theorem Own.push{enc:α->List AV}{l:List α}(o:Own enc sz k h a l)(he:∀ x,(enc x).length=sz)(h1:∀ x,bw (enc x)=true)(hk:k<=h.next){bytes:Nat}(hroom:(l.length+1)*bytes<=cJ)(v:α) :
  ∃ a' h',cj sz bytes a (.slice h.next 0 1 sz) (h.alloc (.cells (enc v)))=some (a',h')/\Own enc sz k h' a' (l++[v])/\(∀ c,c<h.next->cz a≠some c->h'.get c=h.get c)/\h.next<=h'.next/\(∀ h0,bC h0 h->h0.next<=k->bC h0 h')/\∀ c,cz a'=some c->h.next<=c:=by
 have g:=aB h (.cells (enc v));have hn:(h.alloc (.cells (enc v))).next=h.next+1:=Heap.aM h _
 have hx:bC h (h.alloc (.cells (enc v))):=bC.alloc _ _
 have r:Row enc sz (h.alloc (.cells (enc v))) (.slice h.next 0 1 sz) [v]:=by
  refine ⟨rfl,?_⟩;have hl:(enc v).length=sz:=he v;simp only [iu,g,if_true,length_singleton,Nat.one_mul,Nat.zero_add,hl,dN,drop_zero];rw [<- hl,take_length];simp
 obtain ⟨a',h',p,o',f,n,hf⟩:=(o.ext hx).append he h1 r (by omega) (bytes:=bytes) (by simpa using hroom);have f':∀ c,c<h.next->cz a≠some c->h'.get c=h.get c:=fun c hc hb=>by rw [f c (by omega) hb];exact hx.get c hc
 refine ⟨a',h',p,o',f',by omega,fun h0 e0 hk0=>⟨by have:=e0.next;omega,fun c hc=>?_⟩,fun c hc=>by have:=hf (by simp) c hc;omega⟩;rw [f' c (by have:=e0.next;omega) (fun hb=>by have:=o.ge hb;omega)];exact e0.get c hc
def nj(y:cc×Int):List AV:=[.str y.1,.int .i64 y.2]
theorem oI(y:cc×Int):(nj y).length=2:=rfl
theorem Pn(s:cc)(n:Int):iA [.str [],.int .i64 0] [(0,1),(1,1)] [.str s,.int .i64 n]=some (.agg (nj (s,n))):=rfl
theorem Po(y:cc×Int):fZ [.str [],.int .i64 0] [(0,2)] [.agg (nj y)]=some (nj y):=rfl
theorem Own.Ky{enc:α->List AV}{l:List α}(o:Own enc sz k h a l)(hf:∀ v,∀ x ∈ enc v,Fz true h x x):∃ x:Sl α,x.l=l/\Fz true h a (an enc sz x):=by
 cases o with
 |nil=>exact ⟨none,rfl,.dR rfl⟩
 |row b l h1 h2 h3=>
  refine ⟨some l,rfl,.slice b 0 l.length sz _ _ h3 rfl fun i x y hx hy=>?_⟩;rw [hx] at hy;cases hy;have:=iq hx;rw [mem_flatMap] at this;obtain ⟨v,hv,Rk⟩:=this;exact hf v x Rk
theorem Own.kF{enc:α->List AV}{l:List α}(o:Own enc sz k h a l){d:Nat}(hd:d<k)(x:jX):Own enc sz k (h.set d x) a l:=by
 cases o with
 |nil=>exact .nil
 |row b _ w1 w2 w3=>exact .row b l w1 (by rw [Heap.br];exact w2) (by rw [Heap.aN,if_neg (by omega)];exact w3)
theorem uE(m:eE)(k j:cc)(v:Int):(m.qY k v).find j=if j=k then some v else m.find j:=by
 induction m with
 |nil=>
  simp only [eE.qY,eE.find,find?_cons,find?_nil];by_cases h:j=k
  ·subst h;simp
  ·have:(j==k)=false:=by simpa using h
   rw [this,if_neg h]
 |cons p m ih=>
  simp only [eE.qY];by_cases hk:k=p.1
  ·rw [if_pos (by simpa using hk)];subst hk;simp only [eE.find,find?_cons];by_cases h:j=p.1
   ·subst h;simp
   ·have:(j==p.1)=false:=by simpa using h
    rw [this,if_neg h]
  ·rw [if_neg (by simpa using hk)];simp only [eE.find,find?_cons] at ih ⊢;by_cases h:j=p.1
   ·subst h;simp only [beq_self_eq_true,map_some];rw [if_neg (Ne.symm hk)]
   ·have:(j==p.1)=false:=by simpa using h
    rw [this];exact ih
theorem Iz(m:eE)(k:cc)(v:Int):(m.qY k v).map (·.1)=if k ∈ m.map (·.1) then m.map (·.1) else m.map (·.1)++[k]:=by
 induction m with
 |nil=>simp [eE.qY]
 |cons p m ih=>
  simp only [eE.qY];by_cases hk:k=p.1
  ·rw [if_pos (by simpa using hk)];subst hk;simp
  ·rw [if_neg (by simpa using hk),map_cons,ih];by_cases hm:k ∈ m.map (·.1)
   ·rw [if_pos hm,if_pos (by rw [map_cons];exact mem_cons_of_mem _ hm)];rfl
   ·rw [if_neg hm,if_neg (by rw [map_cons,mem_cons];exact fun h=>h.elim hk hm)];rfl
theorem Fo(hm:(m.map (·.1)).Nodup)(k:cc)(v:Int):((m.qY k v).map (·.1)).Nodup:=by
 rw [Iz];split
 ·exact hm
 ·rename_i h;rw [nodup_append];exact ⟨hm,by simp,fun a ha b hb=>by simp at hb;subst hb;exact fun e=>h (e▸ha)⟩
theorem qv{k:cc}(h:m.find k=some v):(k,v) ∈ m:=by
 unfold eE.find at h;obtain ⟨p,hp,rfl⟩:=map_eq_some_iff.1 h;have h1:=mem_of_find?_eq_some hp;have h2:=find?_some hp;simp only [beq_iff_eq] at h2;subst h2;exact h1
theorem uF(hm:(m.map (·.1)).Nodup){p:cc×Int}(hp:p ∈ m):m.find p.1=some p.2:=by
 induction m with
 |nil=>cases hp
 |cons q m ih=>
  rw [map_cons,nodup_cons] at hm;simp only [eE.find,find?_cons];rcases mem_cons.1 hp with rfl|hp
  ·simp
  ·have:(p.1==q.1)=false:=by
    simp only [beq_eq_false_iff_ne];exact fun e=>hm.1 (e▸List.mem_map_of_mem hp)
   rw [this];exact ih hm.2 hp
theorem j9.mem:∀ {es:List Entry} {m:eE},j9 es m->∀ e ∈ es,∃ p ∈ m,e.1 = .str p.1/\e.2.1 = .int .i64 p.2
 |[],_,_,e,he=>by cases he
 |e0 :: es,[],h,_,_=>h.elim
 |e0 :: es,p :: m,⟨h1,h2,h3⟩,e,he=>by
  rcases mem_cons.1 he with rfl|he
  ·exact ⟨p,mem_cons_self,h1,h2⟩
  ·obtain ⟨q,hq,r⟩:=j9.mem h3 e he;exact ⟨q,mem_cons_of_mem _ hq,r⟩
theorem mM{z v:AV}(h1:v.dB = [v])(hv:bw [v]=true):∃ h',aZ 1 (.ptr h.next 0) v (h.alloc (.cells [z]))=some h'/\h'.get h.next=some (.cells [v])/\(∀ b,b≠h.next->h'.get b=h.get b)/\h'.next=h.next+1:=by
 refine ⟨_,by rw [cB (n:=1) (aB _ _) (by rw [h1];rfl) (by rw [h1];exact hv) (by simp),h1],?_,fun b hb=>?_,by rw [Heap.br,Heap.aM]⟩
 ·rw [Heap.aN,if_pos rfl];rfl
 ·rw [Heap.aN,if_neg hb,Heap.aW,if_neg hb]
theorem rB{x s:cc}:∀ {l:List cc},x ∈ eL l s↔x ∈ l\/x=s
 |[]=>by simp [eL]
 |a :: l=>by
  rw [eL];split
  ·rw [mem_cons,rB (l:=l),mem_cons,_root_.or_assoc]
  ·split
   ·rename_i h;subst h;rw [mem_cons];exact ⟨fun h=>.inl h,fun h=>h.elim id .inl⟩
   ·rw [mem_cons];exact Or.comm
theorem Fz.Kz{old:Bool}{v r:AV}(hr:r.scalar=true)(hf:Fz old h v r):v=r:=by
 cases hf<;>first|rfl|(simp [AV.scalar] at hr)
theorem Sem.aac{P:Program}{f:FuncId}{args vI:List AV}{r:AV}(hr:r.scalar=true)(hs:Sem P f vI Heap.empty (pU r))(hp:lI true h args vI)(hK:K (.ret r) h=true):Sem P f args h K:=
 hs.Vk hp fun o h' ho=>by
  obtain ⟨v,rfl,hf⟩:=cw.1 ho;obtain rfl:=hf.Kz hr;exact ⟨_,_,rfl,.scalar _ hr,hK⟩
theorem ym{old:Bool}(hb:h.get b=some (.cells (d.map iv))):Fz old h (.slice b 0 d.length 1) (an encI 1 (some d)):=by
 refine .slice b 0 d.length 1 _ _ hb (by rw [tj]) fun i x y hx hy=>?_;rw [tj,hy] at hx;cases hx;rw [<- tj,getElem?_map] at hy;obtain ⟨v,hv,rfl⟩:=map_eq_some_iff.1 hy;exact .scalar _ rfl
theorem Own.lt{enc:α->List AV}{l:List α}(o:Own enc sz k h a l){c:Nat}(hc:cz a=some c):c<h.next:=by
 cases o with
 |nil=>cases hc
 |row b l h1 h2 h3=>cases hc;exact h2
theorem GL[BEq α][LawfulBEq α]{l m:List α}{a b:α}(ha:l[i]?=some a)(hb:m[i]?=some b):(l.drop i==m.drop i)=((a==b)&&(l.drop (i+1)==m.drop (i+1))):=by
 have h1:=(ki.1 ha).1;have h2:=(ki.1 hb).1;rw [drop_eq_getElem_cons h1,drop_eq_getElem_cons h2];rw [ew h1] at ha;rw [ew h2] at hb;cases ha;cases hb;rfl
theorem ec{x y:Sl Int}(hx:x.l.length<=cM){h:Heap}{K:Out->Heap->Bool}(hK:K (.ret (.bool (x.l==y.l))) h=true):Sem TP 20 [an encI 1 x,an encI 1 y] h K:=by
 refine F.AI ?_;rw [F.Cv];simp only [aS,reduceAdd,reduceEqDiff,reduceIte,cP];by_cases hl:x.l.length=y.l.length
 ·simp only [fC (by omega:(x.l.length:Int)=(y.l.length:Int)),Bool.not_true,aK];refine aE 0 x.l.length (zero_le _) (fun i e h'=>h'=h/\e 0=an encI 1 x/\e 1=an encI 1 y/\e 5 = .int .i64 (i:Int)/\(x.l==y.l)=(x.l.drop i==y.l.drop i)) ⟨rfl,rfl,rfl,rfl,rfl⟩ ?_ ?_
  ·rintro i e h' _ hi ⟨rfl,e0,e1,e5,ht⟩ K' hn gm hr hp;have Bv:i<y.l.length:=by omega
   have hv:x.l[i]?=some x.l[i]:=ew hi;have hw:y.l[i]?=some y.l[i]:=ew Bv;rw [GL hv hw] at ht;generalize x.l[i]=a at hv ht;generalize y.l[i]=b at hw ht;rw [F.ec.aU];simp only [e0,e1,e5,aS,reduceAdd,reduceEqDiff,reduceIte,bp hi,aV x hi,aV y Bv,iW hv,iW hw]
   cases hq:a==b with
   |false=>
    simp only [Bool.not_false,aL];rw [hr,F.ec.bz];simp only [bP,reduceEqDiff,reduceIte];rw [ht,hq] at hK;exact hK
   |true=>
    simp only [Bool.not_true,aK,aJ hi hx,aq];exact hn _ _ ⟨rfl,e0,e1,rfl,by rw [ht,hq,Bool.true_and]⟩
  ·rintro e h' ⟨rfl,e0,e1,e5,ht⟩ K' gm;rw [F.ec.aU];simp only [e0,e5,aS,reduceAdd,reduceEqDiff,reduceIte,aX];rw [gm,F.ec.aG];rw [drop_of_length_le (dN _),drop_of_length_le (by omega)] at ht;rw [ht] at hK;exact hK
 ·simp only [eV (by omega:¬ (x.l.length:Int)=(y.l.length:Int)),Bool.not_false,aL]
  have:(x.l==y.l)=false:=by
   simp only [beq_eq_false_iff_ne];exact fun e=>hl (congrArg List.length e)
  rw [this] at hK;exact hK
theorem nP:∀ a:cc,strLt a a=false
 |[]=>rfl
 |x :: a=>by
  have:=nP a;unfold strLt at this ⊢;simp [Op.bytesLess,this]
theorem tC:∀ {a b c:cc},strLt a b=true->strLt b c=true->strLt a c=true
 |_,[],_,h,_=>by unfold strLt at h;simp [Op.bytesLess] at h
 |_,_ :: _,[],_,h=>by unfold strLt at h;simp [Op.bytesLess] at h
 |[],_ :: _,_ :: _,_,_=>rfl
 |x :: a,y :: b,z :: c,h1,h2=>by
  have ih:=@tC a b c;unfold strLt at h1 h2 ih ⊢;simp only [Op.bytesLess,or_eq_true,decide_eq_true_eq,and_eq_true,beq_iff_eq] at h1 h2 ⊢;rcases h1 with h1|⟨rfl,h1⟩<;>rcases h2 with h2|⟨rfl,h2⟩
  ·exact .inl (UInt8.lt_trans h1 h2)
  ·exact .inl h1
  ·exact .inl h2
  ·exact .inr ⟨rfl,ih h1 h2⟩
theorem zo:∀ {a b:cc},strLt a b=false->a≠b->strLt b a=true
 |[],[],_,h=>absurd rfl h
 |[],_ :: _,h,_=>by unfold strLt at h;simp [Op.bytesLess] at h
 |_ :: _,[],_,_=>rfl
 |x :: a,y :: b,h1,h2=>by
  have ih:=@zo a b;unfold strLt at h1 ih ⊢;simp only [Op.bytesLess,or_eq_false_iff,decide_eq_false_iff_not,and_eq_false_iff,beq_eq_false_iff_ne] at h1;simp only [Op.bytesLess,or_eq_true,decide_eq_true_eq,and_eq_true,beq_iff_eq];obtain ⟨h3,h4⟩:=h1;by_cases e:x=y
  ·subst e;rcases h4 with h4|h4
   ·exact absurd rfl h4
   ·exact .inr ⟨rfl,ih h4 (fun h=>h2 (by rw [h]))⟩
  ·refine .inl ?_;rcases UInt8.lt_or_lt_of_ne e with h|h
   ·exact absurd h h3
   ·exact h
theorem VN:∀ {a b:cc},leB a b=true->a≠b->strLt a b=true:=fun {a b} h hne=>by
 cases hs:strLt a b with
 |true=>rfl
 |false=>
  exfalso
  have key:∀ {a b:cc},strLt b a=true->b<a:=by
   intro a
   induction a with
   |nil=>intro b h;unfold strLt at h;cases b<;>simp [Op.bytesLess] at h
   |cons x a ih=>
    intro b h
    cases b with
    |nil=>exact nil_lt_cons _ _
    |cons y b=>
     unfold strLt at h;simp only [Op.bytesLess,or_eq_true,decide_eq_true_eq,and_eq_true,beq_iff_eq] at h;rcases h with h|⟨rfl,h⟩
     ·exact cons_lt_cons_iff.2 (.inl h)
     ·exact cons_lt_cons_iff.2 (.inr ⟨rfl,ih h⟩)
  have h1:=key (zo hs hne);have h2:a<=b:=of_decide_eq_true h;exact absurd h1 (List.not_lt.2 h2)
def rP(l:List cc):Prop:=l.Pairwise fun a b=>strLt a b=true
theorem vN:∀ {l m:List cc},rP l->rP m->(∀ x,x ∈ l↔x ∈ m)->l=m
 |[],[],_,_,_=>rfl
 |[],y :: m,_,_,h=>by have:=(h y).2 mem_cons_self;cases this
 |x :: l,[],_,_,h=>by have:=(h x).1 mem_cons_self;cases this
 |x :: l,y :: m,hl,hm,h=>by
  obtain ⟨l1,l2⟩:=pairwise_cons.1 hl;obtain ⟨m1,m2⟩:=pairwise_cons.1 hm
  have Uw:x=y:=by
   rcases mem_cons.1 ((h x).1 mem_cons_self) with e|e
   ·exact e
   ·rcases mem_cons.1 ((h y).2 mem_cons_self) with e'|e'
    ·exact e'.symm
    ·have:=tC (m1 x e) (l1 y e');rw [nP] at this;cases this
  subst Uw;rw [vN l2 m2 fun z=>?_];constructor
  ·intro hz;rcases mem_cons.1 ((h z).1 (mem_cons_of_mem _ hz)) with e|e
   ·subst e;have:=l1 z hz;rw [nP] at this;cases this
   ·exact e
  ·intro hz;rcases mem_cons.1 ((h z).2 (mem_cons_of_mem _ hz)) with e|e
   ·subst e;have:=m1 z hz;rw [nP] at this;cases this
   ·exact e
theorem vO:∀ {l:List cc},rP l->∀ s,rP (eL l s)
 |[],_,s=>pairwise_singleton _ _
 |x :: l,h,s=>by
  obtain ⟨h1,h2⟩:=pairwise_cons.1 h;rw [eL];split
  ·rename_i hx;refine pairwise_cons.2 ⟨fun y hy=>?_,vO h2 s⟩;rcases rB.1 hy with hy|rfl
   ·exact h1 y hy
   ·exact hx
  ·rename_i hx;split
   ·exact h
   ·rename_i hne;have hsx:strLt s x=true:=zo (by simpa using hx) hne;refine pairwise_cons.2 ⟨fun y hy=>?_,h⟩;rcases mem_cons.1 hy with rfl|hy
    ·exact hsx
    ·exact tC hsx (h1 y hy)
theorem Fp{ck:Nat}:∀ {es:List Entry},(∀ e ∈ es,(∃ s,e.1 = .str s/\s.length<=1000)/\e.2.2<ck)->(es.map keyBytes).Nodup->(es.map (·.2.2)).Nodup->rf ck es=true
 |[],_,_,_=>rfl
 |e :: es,h,h1,h2=>by
  rw [map_cons,nodup_cons] at h1 h2;obtain ⟨⟨s,hs,hl⟩,hc⟩:=h e mem_cons_self;have ih:=Fp (ck:=ck) (es:=es) (fun f hf=>h f (mem_cons_of_mem _ hf)) h1.2 h2.2;have hb:ble s.length 140737488351232=true:=ble_eq_true_of_le (by omega);have D5:ble (e.2.2+1) ck=true:=ble_eq_true_of_le hc
  have lM:es.all (fun f=>!(keyBytes e==keyBytes f)&&!(Nat.beq e.2.2 f.2.2))=true:=by
   rw [List.all_eq_true];intro f hf
   have q1:(keyBytes e==keyBytes f)=false:=by
    simp only [beq_eq_false_iff_ne];exact fun q=>h1.1 (by rw [q];exact List.mem_map_of_mem hf)
   have q2:Nat.beq e.2.2 f.2.2=false:=by
    cases hq:Nat.beq e.2.2 f.2.2 with
    |false=>rfl
    |true=>exact absurd (by rw [eq_of_beq_eq_true hq];exact List.mem_map_of_mem hf) h2.1
   rw [q1,q2];rfl
  simp only [rf,hs,isStr,hb,D5,lM,ih,Bool.and_self]
theorem keys_map{M:Nat}(hK:K (.ret (.func 106 [] [.ptr h.next 0])) (h.alloc (.box (.map M)))=true):Sem TP 62 [.map M] h K:=
 qs.Uk (f:=62) (g:=LW 106) rfl hK
theorem KA{M:Nat}(hb:h.get b=some (.box (.map M)))(hM:h.get M=some (.map es ck))(kD:rf ck es=true)(hlen:es.length<=1000000)
  (hK:∀ a h',bC h h'->Own encS 1 h.next h' a (qm (es.map keyBytes))->K (.ret a) h'=true):Sem TP 61 [.func 106 [] [.ptr b 0]] h K:=by
 refine qs.Uk (f:=61) (g:=uz 106) rfl ?_;have hl:ble (es.length*16) 140737488355328=true:=ble_eq_true_of_le (by omega)
 have h2:uz 106 [.func 106 [] [.ptr b 0]] h K=true:=by
  simp only [uz,hb,hM,kD,hl,Bool.true_and];rw [show Nat.beq 106 106=true from rfl,Bool.true_and];generalize qm (es.map keyBytes)=ns at hK ⊢
  cases ns with
  |nil=>exact hK _ _ (bC.refl _) .nil
  |cons k ks=>
   have e:(k :: ks).map AV.str=(k :: ks).flatMap encS:=by
    generalize (k :: ks)=l
    induction l with
    |nil=>rfl
    |cons x l ih=>rw [map_cons,flatMap_cons,ih];rfl
   refine hK _ _ (bC.alloc _ _) ?_;rw [e];exact .row _ (k :: ks) (dN _) (lt_succ_self _) (aB _ _)
 exact h2
theorem GM(hn:l.Nodup):rP (qm l)/\∀ x,x ∈ qm l↔x ∈ l:=by
 refine ⟨?_,fun x=>(oD l).mem_iff⟩;have h1:=ri l;have h2:(qm l).Nodup:=(oD l).nodup_iff.2 hn;unfold rP;unfold List.Nodup at h2;exact (h1.and h2).imp fun {a b} h=>VN h.1 h.2
theorem tD(hb:h.get b=some (.map es ck))(hm:j9 es m)(k:cc) :
  dV .string (.int .i64 0) false (.map b) (.str k) h=some (.int .i64 ((m.find k).getD 0)):=by
 obtain ⟨r,hr,uy⟩:=j9.jD (k:=k) 0 hm;simp only [dV,lN,hb,qb,p9,if_true,hr]
 cases r with
 |none=>simp at uy;simp [uy]
 |some jv=>
  obtain ⟨n,q,_,b,c,_⟩:=uy;obtain ⟨j,v⟩:=jv;simp only at c;subst c;simp [b]
theorem L9:∀ {es:List Entry} {m:eE},j9 es m->es.map keyBytes=m.map (·.1)
 |[],[],_=>rfl
 |e :: es,p :: m,⟨h1,_,h3⟩=>by
  obtain ⟨ek,ev⟩:=e;simp only at h1;subst h1;rw [map_cons,map_cons,L9 h3];rfl
end
end Go.AM
namespace Go.AM
open List Nat Bool Option
open Go Go.Proofs
noncomputable section
variable {K:Out->Heap->Bool} {h h':Heap} {hs ks o:List cc} {D:cc->Option (Nat×List Bool)} {n k M V base S b B sz j N0 N1 N4 P3 P5 P6 PL:Nat} {lv:eA.Lv} {vs:List Int} {s nm:cc} {i0 v:Int} {g ng:FuncId} {α σ:Type} {p:Nat×List Bool} {a cW lW:AV} {x xs:Sl cc} {d:List Bool} {ga gb na nb:List AV}
theorem uG{enc:α->List AV}(he:∀ a,(enc a).length=sz)(x:Sl α)(h:Heap):Row enc sz h (an enc sz x) x.l:=by
 cases x with
 |none=>exact ⟨rfl,rfl⟩
 |some l=>
  refine ⟨rfl,?_⟩;have hl:(l.flatMap enc).length=l.length*sz:=fV he l;simp only [an,iu,Sl.Kn,Nat.zero_add,hl,beq_self_eq_true,dN,decide_true,Bool.and_self,if_true,drop_zero];rw [<- hl,take_length]
structure eP where
 kind:Int
 neg:Bool
 name:cc
 args:Sl cc
structure aP where
 name:cc
 args:Sl cc
 body:Sl eP
def bM(c:eP):List AV:=[.int .i64 c.kind,.bool c.neg,.str c.name,an encS 1 c.args]
def iF(nm:cc)(xs:Sl cc):List AV:=[.str nm,an encS 1 xs]
def aQ(r:aP):List AV:=[.str r.name,an encS 1 r.args,an bM 4 r.body]
theorem iy(c:eP):(bM c).length=4:=rfl
theorem gz(r:aP):(aQ r).length=3:=rfl
theorem wM(c:eP):AV.cO (bM c)=true:=by simp [bM,AV.cO,AV.pure,cp j8]
theorem fN(r:aP):AV.cO (aQ r)=true:=by simp [aQ,AV.cO,AV.pure,cp j8,cp wM]
theorem zq(nm:cc)(xs:Sl cc):bw (iF nm xs)=true:=by
 unfold iF;simp only [bw,fT,Bool.and_true];rfl
theorem iz(c:eP):bw (bM c)=true:=by
 unfold bM;simp only [bw,fT,Bool.and_true];rfl
theorem kf(r:aP):bw (aQ r)=true:=by
 unfold aQ;simp only [bw,fT,Bool.and_true];rfl
def eP.ok(c:eP):Prop:=c.name.length<=cM/\c.args.l.length<=cM/\∀ s ∈ c.args.l,s.length<=cM
def aP.ok(r:aP):Prop:=r.name.length<=cM/\r.args.l.length<=cM/\(∀ s ∈ r.args.l,s.length<=cM)/\r.body.l.length<=cM/\∀ c ∈ r.body.l,c.ok
theorem Ma(a b c d:AV):ji (some 2) [a,b,c,d] 2=some (.agg [c,d]):=rfl
theorem Mb(a b c:AV):ji (some 2) [a,b,c] 0=some (.agg [a,b]):=rfl
theorem GN(a b c d:AV):ji (some 4) [a,b,c,d] 0=some (.agg [a,b,c,d]):=rfl
theorem rC(a b c:AV):ji (some 3) [a,b,c] 0=some (.agg [a,b,c]):=rfl
theorem jr{i:Nat}{v:cc}(hv:x.l[i]?=some v):ah none (.dQ (x.l.flatMap encS) (i*1)) h=some (.str v):=by
 rw [wq iC hv];rfl
theorem ED(hx:x.l.length<=cM){a b:List AV}{p:cc->Bool}(hp:∀ (v:cc) (K:Out->Heap->Bool),K (.ret (.bool (p v))) h=true->Sem TP g (a++([.str v]++b)) h K)
  (hK:∀ n:Int,decide (0<=n)=x.l.any p->K (.ret (.int .i64 n)) h=true):Sem TP 184 [an encS 1 x,.func g a b] h K:=by
 refine F.kE ?_;rw [F.kK];simp only [aS,reduceAdd,reduceEqDiff,reduceIte];refine aE 0 x.l.length (zero_le _) (fun i e h'=>h'=h/\e 0=an encS 1 x/\e 1 = .func g a b/\e 7 = .int .i64 (x.l.length:Int)/\e 8 = .int .i64 (i:Int)/\(x.l.take i).any p=false) ⟨rfl,rfl,rfl,rfl,rfl,rfl⟩ ?_ ?_
 ·rintro i e h' _ hi ⟨rfl,e0,e1,e7,e8,ht⟩ K' hn gm hr B2;have hv:x.l[i]?=some x.l[i]:=ew hi;rw [F.bA.aU];simp only [e0,e1,e7,e8,aS,reduceAdd,reduceEqDiff,reduceIte,bp hi,aV x hi,jr hv,fA];refine ai (hp _ _ ?_);simp only [aS,reduceAdd,reduceEqDiff,reduceIte]
  cases hq:p x.l[i] with
  |true=>
   simp only [aL];rw [hr,F.bA.bz];refine hK (i:Int) ?_;rw [fC (by omega:(0:Int)<=(i:Int))];exact (List.any_eq_true.2 ⟨_,iq hv,hq⟩).symm
  |false=>
   simp only [aK,aJ hi hx,aq];exact hn _ _ ⟨rfl,e0,e1,e7,rfl,by rw [take_add_one,hv,any_append,ht];simp [hq]⟩
 ·rintro e h' ⟨rfl,e0,e1,e7,e8,ht⟩ K' gm;rw [F.bA.aU];simp only [e0,e1,e7,e8,aS,reduceAdd,reduceEqDiff,reduceIte,aX];rw [gm,F.bA.aG];rw [jW (dN _)] at ht;exact hK (-1) (by rw [ht];rfl)
theorem zu(hx:x.l.length<=cM){a b:List AV}{p:cc->Bool}(hp:∀ (v:cc) (K:Out->Heap->Bool),K (.ret (.bool (p v))) h=true->Sem TP g (a++([.str v]++b)) h K)
  (hK:K (.ret (.bool (x.l.any p))) h=true):Sem TP 167 [an encS 1 x,.func g a b] h K:=by
 refine F.jH ?_;rw [F.jQ];refine ai (ED hx hp fun n hn=>?_);simp only [aS,reduceAdd,reduceEqDiff,reduceIte];rw [hn];exact hK
theorem GO(hK:K (.ret (.bool (!ej s))) h=true):Sem TP 168 [.str s] h K:=by
 refine F.zc ?_;rw [F.AP];refine ai (dS ?_);simp only [aS,reduceAdd,reduceEqDiff,reduceIte];exact hK
theorem S7(p:α->Bool)(l:List α):(!(l.any fun x=>!p x))=l.all p:=by
 induction l with
 |nil=>rfl
 |cons a l ih=>rw [any_cons,all_cons,<- ih];cases p a<;>simp
theorem S8(p:α->Bool):∀ (l:List α) (h:l.length=2),l.all p=(p (l[0]'(by omega))&&p (l[1]'(by omega)))
 |[a,b],_=>by simp
def mz(nm:cc)(xs:List cc):Bool:=ej nm&&(decide (xs.length<=12)&&xs.all ej)
theorem CZ(hx:xs.l.length<=cM)(hK:K (.ret (.bool (mz nm xs.l))) h=true):Sem TP 138 [.agg [.str nm,an encS 1 xs]] h K:=by
 refine Sem.data (r:=.bool (mz nm xs.l)) ?_ (by simp [AV.cO,AV.pure,cp j8]) hK;clear hK;refine F.Cz ?_;rw [F.Eh];have g0:(Heap.alloc Heap.empty (.cells (iF nm xs))).get 0=some (.cells (iF nm xs)):=aB _ _;have hb:eY (.agg [.str nm,an encS 1 xs])=some (iF nm xs):=c8 (zq nm xs);simp only [hb,aq,bU];generalize (Heap.alloc Heap.empty (.cells (iF nm xs)))=H at g0 ⊢;have fin:∀ b:Bool,b=mz nm xs.l->pU (.bool (mz nm xs.l)) (.ret (.bool b)) H=true:=fun b hb=>by rw [hb];exact gw rfl
 simp only [aS,reduceAdd,reduceEqDiff,reduceIte,ak g0,iF];refine ai (dS ?_);simp only [aS,reduceAdd,reduceEqDiff,reduceIte]
 cases hn:ej nm with
 |false=>simp only [aK];exact fin _ (by simp [mz,hn])
 |true=>
  simp only [aL,aS,reduceAdd,reduceEqDiff,reduceIte,ak g0,iF];by_cases IA:xs.l.length<=12
  ·simp only [fC (by omega:(xs.l.length:Int)<=12),aL,aS,reduceAdd,reduceEqDiff,reduceIte,ak g0,iF];refine ai (zu hx (p:=fun s=>!ej s) (fun v K hK=>GO hK) ?_);simp only [aS,reduceAdd,reduceEqDiff,reduceIte];exact fin _ (by rw [S7];simp [mz,hn,IA])
  ·simp only [eV (by omega:¬ (xs.l.length:Int)<=12),aK];exact fin _ (by simp [mz,IA])
def gI(c:eP):Bool:=if c.kind=0 then mz c.name c.args.l else if c.kind=1\/c.kind=2 then decide (c.name = [])&&(decide (c.args.l.length=2)&&c.args.l.all ej) else false
theorem fW{c:eP}(hc:c.ok){h:Heap}{K:Out->Heap->Bool}(hK:K (.ret (.bool (gI c))) h=true):Sem TP 140 [.agg [.int .i64 c.kind,.bool c.neg,.str c.name,an encS 1 c.args]] h K:=by
 refine Sem.data (r:=.bool (gI c)) ?_ (by simp [AV.cO,AV.pure,cp j8]) hK;clear hK;refine F.u9 ?_;rw [F.wB];have g0:(Heap.alloc Heap.empty (.cells (bM c))).get 0=some (.cells (bM c)):=aB _ _;have hb:eY (.agg [.int .i64 c.kind,.bool c.neg,.str c.name,an encS 1 c.args])=some (bM c):=c8 (iz c);simp only [hb,aq,bU];generalize (Heap.alloc Heap.empty (.cells (bM c)))=H at g0 ⊢;have fin:∀ b:Bool,b=gI c->pU (.bool (gI c)) (.ret (.bool b)) H=true:=fun b hb=>by rw [hb];exact gw rfl
 generalize pU (.bool (gI c))=R at fin ⊢;simp only [aS,reduceAdd,reduceEqDiff,reduceIte,ak g0,bM,cP,Ma];by_cases k0:c.kind=0
 ·simp only [fC k0,aL];refine ai (CZ hc.2.1 ?_);simp only [aS,reduceAdd,reduceEqDiff,reduceIte];exact fin _ (by simp [gI,k0])
 simp only [eV k0,aK]
 have J:∀ (e:Env) (b:Bool),e 1 = .ptr 0 0->e 10 = .bool b->(b=true↔(c.kind=1\/c.kind=2))->F.fW.J0 R ⟨e,40,[],H⟩=true:=by
  intro e b e1 jF hb;rw [F.fW.CA];simp only [e1,jF,aS,reduceAdd,reduceEqDiff,reduceIte]
  cases b with
  |false=>
   simp only [aK];have:¬ (c.kind=1\/c.kind=2):=fun h=>by have:=hb.2 h;cases this
   exact fin _ (by simp [gI,k0,this])
  |true=>
   have hk:=hb.1 rfl;have Od:gI c=(decide (c.name = [])&&(decide (c.args.l.length=2)&&c.args.l.all ej)):=by simp only [gI,if_neg k0,if_pos hk]
   rw [Od] at fin;simp only [aL,aS,reduceAdd,reduceEqDiff,reduceIte,ak g0,bM,rA];by_cases hn:c.name = []
   ·simp only [fC hn,aL,aS,reduceAdd,reduceEqDiff,reduceIte,ak g0,bM,cP];by_cases h2:c.args.l.length=2
    ·simp only [fC (by omega:(c.args.l.length:Int)=2),aL,aS,reduceAdd,reduceEqDiff,reduceIte,ak g0,bM];have v0:c.args.l[0]?=some c.args.l[0]:=ew (by omega);have v1:c.args.l[1]?=some c.args.l[1]:=ew (by omega);have lM:c.args.l.all ej=(ej c.args.l[0]&&ej c.args.l[1]):=S8 ej _ h2;have i0:=aV (enc:=encS) (sz:=1) (k:=.i64) c.args (i:=0) (by omega);have i1:=aV (enc:=encS) (sz:=1) (k:=.i64) c.args (i:=1) (by omega);have l0:=fun h=>jr (x:=c.args) v0 (h:=h);have l1:=fun h=>jr (x:=c.args) v1 (h:=h);simp only [show ((0:Nat):Int)=0 from rfl,show ((1:Nat):Int)=1 from rfl] at i0 i1;simp only [i0,i1,l0,l1,aS,reduceAdd,reduceEqDiff,reduceIte];refine ai (dS ?_);simp only [aS,reduceAdd,reduceEqDiff,reduceIte];rw [lM] at fin
     cases n0:ej c.args.l[0] with
     |false=>simp only [aK];exact fin _ (by simp [n0])
     |true=>
      simp only [aL,aS,reduceAdd,reduceEqDiff,reduceIte,ak g0,bM,i0,i1,l0,l1];refine ai (dS ?_);simp only [aS,reduceAdd,reduceEqDiff,reduceIte];exact fin _ (by simp [n0,hn,h2])
    ·simp only [eV (by omega:¬ (c.args.l.length:Int)=2),aK];exact fin _ (by simp [h2])
   ·simp only [eV hn,aK];exact fin _ (by simp [hn])
 by_cases k1:c.kind=1
 ·simp only [fC k1,aL];exact J _ true rfl rfl (by simp [k1])
 ·simp only [eV k1,aK];exact J _ (decide (c.kind=2)) rfl rfl (by simp [k1])
theorem Nf{l:List cc}(o:Own encS 1 k h a l)(hl:l.length<=cM)
  (hK:∀ n:Int,decide (0<=n)=(l.any fun x=>s==x)->K (.ret (.int .i64 n)) h=true):Sem TP 145 [a,.str s] h K:=by
 refine F.iE ?_;rw [F.iN];simp only [o.len,aS,reduceAdd,reduceEqDiff,reduceIte];refine aE 0 l.length (zero_le _) (fun i e h'=>h'=h/\e 0=a/\e 1 = .str s/\e 7 = .int .i64 (l.length:Int)/\e 8 = .int .i64 (i:Int)/\((l.take i).any fun x=>s==x)=false) ⟨rfl,rfl,rfl,rfl,rfl,rfl⟩ ?_ ?_
 ·rintro i e h' _ hi ⟨rfl,e0,e1,e7,e8,ht⟩ K' hn gm hr B2;have hv:l[i]?=some l[i]:=ew hi;generalize l[i]=x at hv;obtain ⟨b,_,g1,g2⟩:=tu o hv;rw [F.bB.aU];simp only [e0,e1,e7,e8,aS,reduceAdd,reduceEqDiff,reduceIte,bp hi,g1,g2]
  cases hq:s==x with
  |true=>
   simp only [aL];rw [hr,F.bB.bz];refine hK (i:Int) ?_;rw [fC (by omega:(0:Int)<=(i:Int))];exact (List.any_eq_true.2 ⟨_,iq hv,hq⟩).symm
  |false=>
   simp only [aK,aJ hi hl,aq];exact hn _ _ ⟨rfl,e0,e1,e7,rfl,yl hv ht hq⟩
 ·rintro e h' ⟨rfl,e0,e1,e7,e8,ht⟩ K' gm;rw [F.bB.aU];simp only [e0,e1,e7,e8,aS,reduceAdd,reduceEqDiff,reduceIte,aX];rw [gm,F.bB.aG];rw [jW (dN _)] at ht;exact hK (-1) (by rw [ht];rfl)
theorem GP{l:List cc}(o:Own encS 1 k h a l)(hl:l.length<=cM)
  (hK:K (.ret (.bool (l.any fun x=>s==x))) h=true):Sem TP 143 [a,.str s] h K:=by
 refine F.kL ?_;rw [F.k8];refine ai (Nf o hl fun n hn=>?_);simp only [aS,reduceAdd,reduceEqDiff,reduceIte];rw [hn];exact hK
def C0(o:List cc)(s:cc):List cc:=if (o.any fun x=>s==x)=true then o else o++[s]
def eM(o l:List cc):List cc:=l.foldl C0 o
theorem Ah{l:List cc}{i:Nat}(hs:l[i]?=some s):eM o (l.take (i+1))=C0 (eM o (l.take i)) s:=by
 unfold eM;rw [take_add_one,hs];simp
theorem Pp(o:List cc)(s:cc):(C0 o s).length<=o.length+1:=by
 unfold C0;split<;>simp
theorem oJ:∀ (l o:List cc),(eM o l).length<=o.length+l.length
 |[],o=>dN _
 |s :: l,o=>by
  have h1:=oJ l (C0 o s);have h2:=Pp o s;show (eM (C0 o s) l).length<=_;rw [length_cons];omega
theorem tE{enc:α->List AV}{l:List α}(o:Own enc sz k h a l):a.dB = [a]/\bw [a]=true:=by
 cases o<;>exact ⟨rfl,rfl⟩
theorem Ng{enc:α->List AV}{b:AV}{l:List α}(o:Own enc sz k h a l)(hV:h.get V=some (.cells [b])):aZ 1 (.ptr V 0) a h=some (h.set V (.cells [a])):=by
 obtain ⟨h1,h2⟩:=tE o;rw [cB (n:=1) hV (by rw [h1];rfl) (by rw [h1];exact h2) (by simp),h1];rfl
theorem Ux(s:cc):fZ [.str []] [(0,1)] [.str s]=some (encS s):=rfl
theorem Ai{l:List cc}(hV:h.get V=some (.cells [a]))(hVk:V<k)(o:Own encS 1 k h a l)(hk:k<=h.next)(hlen:l.length+xs.l.length<=100000000)
  (hK:∀ a' h',h'.get V=some (.cells [a'])->Own encS 1 k h' a' (eM l xs.l)->(∀ c,c<k->c≠V->h'.get c=h.get c)->h.next<=h'.next->K (.ret (.tuple [])) h'=true):Sem TP 142 [an encS 1 xs,.ptr V 0] h K:=by
 refine F.rW ?_;rw [F.sU];simp only [aS,reduceAdd,reduceEqDiff,reduceIte]
 refine aE 0 xs.l.length (zero_le _) (fun i e h'=>∃ a',h'.get V=some (.cells [a'])/\Own encS 1 k h' a' (eM l (xs.l.take i))/\(∀ c,c<k->c≠V->h'.get c=h.get c)/\h.next<=h'.next /\
  e 1 = .ptr V 0/\e 5=an encS 1 xs/\e 6 = .int .i64 (xs.l.length:Int)/\e 7 = .int .i64 (i:Int)) ⟨a,hV,by simpa [eM] using o,fun _ _ _=>rfl,dN _,rfl,rfl,rfl,rfl⟩ ?_ ?_
 ·rintro i e h' _ hi ⟨a',gV,o',fr,DQ,e1,e5,e6,e7⟩ K' hn hx hr hp;have hv:xs.l[i]?=some xs.l[i]:=ew hi;generalize xs.l[i]=s at hv
  have hlb:(eM l (xs.l.take i)).length<=100000000:=by
   have h1:=oJ (xs.l.take i) l;have h2:=length_take_le i xs.l;omega
  rw [F.dO.aU];simp only [e1,e5,e6,e7,aS,reduceAdd,reduceEqDiff,reduceIte,bp hi,aV xs hi,jr hv,ak gV];refine ai (GP o' (by unfold cM;omega) ?_);simp only [aS,reduceAdd,reduceEqDiff,reduceIte];have kj:=Ah (o:=l) hv;unfold C0 at kj
  cases hq:(eM l (xs.l.take i)).any fun x=>s==x with
  |true=>
   rw [hq,if_pos rfl] at kj;simp only [Bool.not_true,aK,aJ hi (show xs.l.length<=cM by unfold cM;omega),aq];exact hn _ _ ⟨a',gV,by rw [kj];exact o',fr,DQ,e1,e5,e6,rfl⟩
  |false=>
   rw [hq,if_neg (by simp)] at kj;obtain ⟨a2,h2,p1,p2,p3,p4,p5,p6⟩:=o'.push iC oG (by omega) (bytes:=16) (by unfold cJ;omega) s
   have gV2:h2.get V=some (.cells [a']):=by
    rw [p3 V (by omega) (fun hb=>by have:=o'.ge hb;omega)];exact gV
   have iM:=Ng p2 gV2;simp only [Bool.not_false,aL,e1,ak gV,aS,reduceAdd,reduceEqDiff,reduceIte,Ux,p1,iM,aJ hi (show xs.l.length<=cM by unfold cM;omega)];refine hn _ _ ⟨a2,by rw [Heap.aN,if_pos rfl],by rw [kj];exact p2.kF hVk _,fun c hc hcV=>?_,by rw [Heap.br];omega,e1,e5,e6,rfl⟩;rw [Heap.aN,if_neg hcV,p3 c (by omega) (fun hb=>by have:=o'.ge hb;omega),fr c hc hcV]
 ·rintro e h' ⟨a',gV,o',fr,DQ,e1,e5,e6,e7⟩ K' hx;rw [F.dO.aU];simp only [e6,e7,aS,reduceAdd,reduceEqDiff,reduceIte,aX];rw [hx,F.dO.aG];rw [jW (dN _)] at o';exact hK a' h' gV o' fr DQ
def jU(o:List cc)(cs:List eP):List cc:=cs.foldl (fun o c=>eM o c.args.l) o
def varsOf(r:aP):List cc:=jU (eM [] r.args.l) r.body.l
def aP.mj(r:aP):Prop:=r.args.l.length<=1500/\r.body.l.length<=1500/\∀ c ∈ r.body.l,c.args.l.length<=1500
theorem EE{cs:List eP}{i:Nat}{c:eP}(hc:cs[i]?=some c):jU o (cs.take (i+1))=eM (jU o (cs.take i)) c.args.l:=by
 unfold jU;rw [take_add_one,hc];simp
theorem yo:∀ (cs:List eP) (o:List cc),(∀ c ∈ cs,c.args.l.length<=1500)->(jU o cs).length<=o.length+cs.length*1500
 |[],o,_=>by simp [jU]
 |c :: cs,o,h=>by
  have h1:=yo cs (eM o c.args.l) fun d hd=>h d (mem_cons_of_mem _ hd);have h2:=oJ c.args.l o;have h3:=h c mem_cons_self;show (jU (eM o c.args.l) cs).length<=_;rw [length_cons];omega
theorem IB{r:aP}(hf:r.mj)(i:Nat):(jU (eM [] r.args.l) (r.body.l.take i)).length<=3000000:=by
 have h1:=yo (r.body.l.take i) (eM [] r.args.l) fun c hc=>hf.2.2 c (mem_of_mem_take hc);have h2:=oJ r.args.l [];have h3:=length_take_le i r.body.l;have h4:=length_take_le' i r.body.l;have:=hf.1;have:=hf.2.1;simp only [length_nil] at h2;omega
theorem dr{r:aP}(hf:r.mj){h:Heap}{K:Out->Heap->Bool}(hK:∀ x:Sl cc,x.l=varsOf r->K (.ret (an encS 1 x)) h=true) :
  Sem TP 100 [.agg [.str r.name,an encS 1 r.args,an bM 4 r.body]] h K:=by
 have main:Sem TP 100 [.agg [.str r.name,an encS 1 r.args,an bM 4 r.body]] Heap.empty (fun o h'=>yes (∃ v,∃ x:Sl cc,o = .ret v/\x.l=varsOf r/\Fz true h' v (an encS 1 x))):=by
  refine F.u7 ?_;rw [F.wA];have hb:eY (.agg [.str r.name,an encS 1 r.args,an bM 4 r.body])=some (aQ r):=c8 (kf r);simp only [hb,aq,bU,Heap.aM];have g0:(Heap.alloc (Heap.alloc Heap.empty (.cells (aQ r))) (.cells [.ay])).get 0=some (.cells (aQ r)):=by simp [Heap.aW,bU]
  have g1:(Heap.alloc (Heap.alloc Heap.empty (.cells (aQ r))) (.cells [.ay])).get 1=some (.cells [.ay]):=by simp [Heap.aW,bU]
  have gn:(Heap.alloc (Heap.alloc Heap.empty (.cells (aQ r))) (.cells [.ay])).next=2:=rfl
  generalize (Heap.alloc (Heap.alloc Heap.empty (.cells (aQ r))) (.cells [.ay]))=H at g0 g1 gn ⊢;simp only [aS,reduceAdd,reduceEqDiff,reduceIte,ak g0,aQ];refine ai (Ai g1 (by omega) (Own.nil (k:=2)) (by omega) (by have:=hf.1;simp only [length_nil];omega) fun a h1 q1 q2 q3 q4=>?_);have S9:h1.get 0=some (.cells (aQ r)):=by rw [q3 0 (by omega) (by omega)];exact g0
  simp only [aS,reduceAdd,reduceEqDiff,reduceIte,ak S9,aQ]
  refine aE 0 r.body.l.length (zero_le _) (fun i e h'=>∃ a',h'.get 1=some (.cells [a'])/\Own encS 1 2 h' a' (jU (eM [] r.args.l) (r.body.l.take i))/\2<=h'.next /\
   e 3 = .ptr 1 0/\e 4 = .func 142 [] [.ptr 1 0]/\e 14=an bM 4 r.body/\e 15 = .int .i64 (r.body.l.length:Int)/\e 16 = .int .i64 (i:Int)) ⟨a,q1,by simpa [jU] using q2,by omega,rfl,rfl,rfl,rfl,rfl⟩ ?_ ?_
  ·rintro i e h' _ hi ⟨a',gV,o',DQ,e3,e4,oK,nQ,e16⟩ K' hn hx hr hp;have hv:r.body.l[i]?=some r.body.l[i]:=ew hi;generalize r.body.l[i]=c at hv;have adh:=hf.2.2 c (iq hv);obtain ⟨H2,hs,k1,ko,kn⟩:=cF (h:=h') (zs:=[.int .i64 0,.bool false,.str [],.ay]) (cs:=bM c) (n:=4) rfl rfl (iz c);have x2:bC h' H2:=⟨by omega,fun b hb=>ko b (by omega)⟩
   have gV2:H2.get 1=some (.cells [a']):=by rw [x2.get 1 (by omega)];exact gV
   rw [F.dr.aU];simp only [e3,e4,oK,nQ,e16,aS,reduceAdd,reduceEqDiff,reduceIte,bp hi,aV r.body hi,dx iy hv,hs];simp only [aS,reduceAdd,reduceEqDiff,reduceIte,ak k1,bM,fA,nil_append,cons_append];refine ai (Ai (xs:=c.args) gV2 (by omega) (o'.ext x2) (by omega) (by have:=IB hf i;omega) fun a3 h3 s1 s2 s3 s4=>?_);simp only [aS,reduceAdd,reduceEqDiff,reduceIte,aJ hi (show r.body.l.length<=cM by have:=hf.2.1;unfold cM;omega)];refine hn _ _ ⟨a3,s1,by rw [EE hv];exact s2,by omega,e3,e4,oK,nQ,rfl⟩
  ·rintro e h' ⟨a',gV,o',DQ,e3,e4,oK,nQ,e16⟩ K' hx;rw [F.dr.aU];simp only [nQ,e16,aS,reduceAdd,reduceEqDiff,reduceIte,aX];rw [hx,F.dr.aG];simp only [e3,aS,reduceAdd,reduceEqDiff,reduceIte,ak gV];rw [jW (dN _)] at o'
   obtain ⟨x,jI,fY⟩:=o'.Ky (fun v y hy=>by
    simp only [encS,mem_cons,not_mem_nil,_root_.or_false] at hy
    subst hy;exact .scalar _ rfl)
   exact cw.2 ⟨a',x,rfl,jI,fY⟩
 refine main.frozen (by have:=fN r;simpa [aQ,AV.cO,AV.pure] using this) fun o h' ho=>?_;obtain ⟨v,x,rfl,hx,hfz⟩:=cw.1 ho;exact ⟨v,_,rfl,hfz,hK x hx⟩
theorem ct(b o:Nat):bx (.ptr b o)=some (.ptr b o):=rfl
theorem IC{d:TypeDesc}{k:AV}:∀ {es:List Entry} {i j:Nat} {v:AV},jD d k es i=some (some (j,v))->∃ n e,j=i+n/\es[n]?=some e
 |[],i,j,v,h=>by simp [jD] at h
 |e :: es,i,j,v,h=>by
  simp only [jD] at h;split at h
  ·cases h;exact ⟨0,e,rfl,rfl⟩
  ·obtain ⟨n,f,h1,h2⟩:=IC h;exact ⟨n+1,f,by omega,by simpa using h2⟩
  ·cases h
theorem Aj:∀ {es:List Entry} {i j:Nat} {e:Entry},(es.map (·.2.2)).Nodup->es[i]?=some e->nZ (e.2.2:Int) es j=some (j+i)
 |[],i,j,e,_,h=>by simp at h
 |f :: es,0,j,e,_,h=>by
  simp only [getElem?_cons_zero,Option.some.injEq] at h;subst h;simp [nZ]
 |f :: es,i+1,j,e,hn,h=>by
  rw [map_cons,nodup_cons] at hn;rw [getElem?_cons_succ] at h
  have hne:¬ ((f.2.2:Int)=(e.2.2:Int)):=fun heq=>hn.1 (by
   have:f.2.2=e.2.2:=by omega
   rw [this];exact List.mem_map_of_mem (iq h))
  rw [nZ,if_neg hne,Aj hn.2 h];congr 1;omega
theorem Nh{es:List Entry}{ck:Nat}{m:eE}(hb:h.get b=some (.map es ck))(hm:j9 es m)(hB:jT es ck){k:cc}{q:Int}(hk:m.find k=some q)(v:Int) :
  ∃ xA born,lu .string (.int .i64 0) (.map b) (.str k) h=some (.tuple [.int .i64 q,.int .i64 born],h)/\iZ (.map b) (.int .i64 born) (.int .i64 v) h=some (h.set b (.map xA ck))/\j9 xA (m.qY k v)/\jT xA ck:=by
 obtain ⟨r,hr,uy⟩:=j9.jD (k:=k) 0 hm
 cases r with
 |none=>simp only at uy;rw [hk] at uy;cases uy
 |some jv=>
  obtain ⟨n,q',hj,b',c,_,e⟩:=uy;obtain ⟨j,w⟩:=jv;simp only [Nat.zero_add] at hj c;subst hj;subst c;rw [hk] at b';cases b';obtain ⟨n,f,h1,h2⟩:=IC hr;rw [Nat.zero_add] at h1;subst h1;refine ⟨eZ es j (.int .i64 v),(f.2.2:Int),?_,?_,e v,hB.set _ _⟩
  ·simp only [lu,hb,qb,p9,if_true,hr,F6,h2]
  ·have:=Aj (j:=0) hB.nodup h2;rw [Nat.zero_add] at this;simp only [iZ,hb,this]
structure fy (hs:List cc) (h:Heap) (M:Nat) (ks:List cc) (lv:eA.Lv):Prop where
 ex:∃ es ck m,h.get M=some (.map es ck)/\j9 es m/\jT es ck/\m.map (·.1)=ks/\∀ x,m.find x=if x ∈ hs then some (lv x:Int) else none
theorem fy.gd(l:fy hs h M ks lv)(he:h'.get M=h.get M):fy hs h' M ks lv:=by
 obtain ⟨es,ck,m,h1,h2⟩:=l.ex;exact ⟨es,ck,m,by rw [he];exact h1,h2⟩
def fm(r:aP)(c:eP):eA.Edge:=⟨c.name,if c.neg then 1 else 0,r.name⟩
def lY(hs:List cc)(r:aP)(c:eP):List eA.Edge:=if c.kind=0/\c.name ∈ hs then [fm r c] else []
def nk(hs:List cc)(r:aP)(cs:List eP):List eA.Edge:=cs.flatMap (lY hs r)
def jl(hs:List cc)(rs:List aP):List eA.Edge:=rs.flatMap fun r=>nk hs r r.body.l
theorem Ak{r:aP}{cs:List eP}{c:eP}(hc:cs[j]?=some c):nk hs r (cs.take (j+1))=nk hs r (cs.take j)++lY hs r c:=by
 unfold nk;rw [take_add_one,hc];simp
theorem C5{rs:List aP}{i:Nat}{r:aP}(hr:rs[i]?=some r):jl hs (rs.take (i+1))=jl hs (rs.take i)++nk hs r r.body.l:=by
 unfold jl;rw [take_add_one,hr];simp
theorem fy.look(l:fy hs h M ks lv)(k:cc) :
  dV .string (.int .i64 0) true (.map M) (.str k) h=some (.tuple [.int .i64 (if k ∈ hs then (lv k:Int) else 0),.bool (decide (k ∈ hs))]):=by
 obtain ⟨es,ck,m,h1,h2,h3,h4,h5⟩:=l.ex;rw [qZ h1 h2,h5];by_cases hk:k ∈ hs<;>simp [hk]
theorem fy.Uy(l:fy hs h M ks lv)(k:cc) :
  dV .string (.int .i64 0) false (.map M) (.str k) h=some (.int .i64 (if k ∈ hs then (lv k:Int) else 0)):=by
 obtain ⟨es,ck,m,h1,h2,h3,h4,h5⟩:=l.ex;rw [tD h1 h2,h5];by_cases hk:k ∈ hs<;>simp [hk]
theorem fy.adi{e:eA.Edge}(l:fy hs h M ks lv)(hh:e.h ∈ hs)(hlt:lv e.h<lv e.b+e.w) :
  ∃ born h',lu .string (.int .i64 0) (.map M) (.str e.h) h=some (.tuple [.int .i64 (lv e.h:Int),.int .i64 born],h)/\iZ (.map M) (.int .i64 born) (.int .i64 ((lv e.b+e.w:Nat):Int)) h=some h' /\
   fy hs h' M ks (eA.gX lv e)/\(∀ b,b≠M->h'.get b=h.get b)/\h'.next=h.next:=by
 obtain ⟨es,ck,m,h1,h2,h3,h4,h5⟩:=l.ex;have hf:m.find e.h=some (lv e.h:Int):=by rw [h5,if_pos hh]
 obtain ⟨xA,born,q1,q2,q3,q4⟩:=Nh h1 h2 h3 hf ((lv e.b+e.w:Nat):Int);refine ⟨born,_,q1,q2,⟨xA,ck,_,by rw [Heap.aN,if_pos rfl],q3,q4,?_,fun x=>?_⟩,fun b hb=>by rw [Heap.aN,if_neg hb],Heap.br _ _ _⟩
 ·rw [Iz,if_pos (mem_map.2 ⟨_,qv hf,rfl⟩)];exact h4
 ·rw [uE];unfold eA.gX;rw [if_pos hlt];by_cases hx:x=e.h
  ·subst hx;rw [if_pos rfl,if_pos hh,if_pos rfl]
  ·rw [if_neg hx,if_neg hx,h5]
theorem KB{P:Nat}{A:AV}{rules:Sl aP}{N:Nat}(hP:h.get P=some (.cells [an aQ 3 rules,A,.map M]))(hl:fy hs h M ks lv)(QN:P<h.next)(VO:M<h.next)
  (hr:rules.l.length<=60) (hb:∀ r ∈ rules.l,r.body.l.length<=20/\r.name ∈ hs) (hN:∀ x,lv x<=N) (hNb:N<=1000000)
  (hK:∀ h',fy hs h' M ks (eA.round (jl hs rules.l) lv)->(∀ b,b<h.next->b≠M->h'.get b=h.get b)->h.next<=h'.next->K (.ret (.bool (!decide (eA.dy (jl hs rules.l) lv)))) h'=true):Sem TP 141 [.ptr P 0] h K:=by
 have hPM:P≠M:=fun e=>by
  obtain ⟨es,ck,m,h1,_⟩:=hl.ex;rw [e,h1] at hP;cases hP
 refine F.ru ?_;rw [F.rX];simp only [aS,reduceAdd,reduceEqDiff,reduceIte,ct,ak hP]
 refine aE 0 rules.l.length (zero_le _) (fun i e h'=>∃ cur ch,eA.RS lv cur (jl hs (rules.l.take i)) ch/\fy hs h' M ks cur/\(∀ x,cur x<=N+i*20)/\(∀ b,b<h.next->b≠M->h'.get b=h.get b)/\h.next<=h'.next /\
  e 0 = .ptr P 0/\e 3 = .bool ch/\e 13=an aQ 3 rules/\e 14 = .int .i64 (rules.l.length:Int)/\e 15 = .int .i64 (i:Int)) ⟨lv,false,eA.RS.nil lv,hl,by simpa using hN,fun _ _ _=>rfl,dN _,rfl,rfl,rfl,rfl,rfl⟩ ?_ ?_
 ·rintro i e h' _ hi ⟨cur,ch,rs,la,bd,fr,DQ,e0,e3,pV,oK,nQ⟩ K' hn hx uW hp;have hv:rules.l[i]?=some rules.l[i]:=ew hi;generalize rules.l[i]=r at hv;obtain ⟨aad,hin⟩:=hb r (iq hv);obtain ⟨H,GQ,g1,go,gn⟩:=cF (h:=h') (zs:=[.str [],.ay,.ay]) (cs:=aQ r) (n:=3) rfl rfl (kf r);rw [F.bt.aU];simp only [e0,e3,pV,oK,nQ,aS,reduceAdd,reduceEqDiff,reduceIte,bp hi,aV rules hi,dx gz hv,GQ];simp only [aS,reduceAdd,reduceEqDiff,reduceIte,ak g1,aQ]
  refine aE 0 r.body.l.length (zero_le _) (fun j e h2=>∃ cur ch,eA.RS lv cur (jl hs (rules.l.take i)++nk hs r (r.body.l.take j)) ch/\fy hs h2 M ks cur/\(∀ x,cur x<=N+i*20+j)/\(∀ b,b<h.next->b≠M->h2.get b=h.get b)/\h2.get h'.next=some (.cells (aQ r))/\h'.next<h2.next /\
   e 0 = .ptr P 0/\e 3 = .bool ch/\e 5 = .ptr h'.next 0/\e 13=an aQ 3 rules/\e 14 = .int .i64 (rules.l.length:Int)/\e 15 = .int .i64 (i:Int)/\e 20=an bM 4 r.body/\e 21 = .int .i64 (r.body.l.length:Int)/\e 22 = .int .i64 (j:Int))
   ⟨cur,ch,by simpa [nk] using rs,la.gd (go M (by omega)),by simpa using bd,fun b hb1 hb2=>by rw [go b (by omega)];exact fr b hb1 hb2,g1,by omega,e0,e3,rfl,pV,oK,nQ,rfl,rfl,rfl⟩ ?_ ?_
  ·rintro j e h2 _ hj ⟨cur,ch,rs,la,bd,fr,gR,oW,e0,e3,e5,pV,oK,nQ,GR,Al,A9⟩ K2 Pq fY qi DT;have hc:r.body.l[j]?=some r.body.l[j]:=ew hj;generalize r.body.l[j]=c at hc;obtain ⟨H2,qJ,k1,ko,kn⟩:=cF (h:=h2) (zs:=[.int .i64 0,.bool false,.str [],.ay]) (cs:=bM c) (n:=4) rfl rfl (iz c);have QO:fy hs H2 M ks cur:=la.gd (ko M (by omega));have gP2:H2.get P=some (.cells [an aQ 3 rules,A,.map M]):=by rw [ko P (by omega),fr P QN hPM];exact hP
   have WX:H2.get h'.next=some (.cells (aQ r)):=by rw [ko _ (by omega)];exact gR
   have fr2:∀ b,b<h.next->b≠M->H2.get b=h.get b:=fun b hb1 hb2=>by rw [ko b (by omega)];exact fr b hb1 hb2
   have hbig:r.body.l.length<=cM:=by unfold cM;omega
   have iM:=Ak (hs:=hs) (r:=r) hc;rw [F.bt.dm];simp only [e0,e3,e5,pV,oK,nQ,GR,Al,A9,aS,reduceAdd,reduceEqDiff,reduceIte,bp hj,aV r.body hj,dx iy hc,qJ];simp only [aS,reduceAdd,reduceEqDiff,reduceIte,ak k1,ct,ak gP2,bM,QO.look,cP];by_cases k0:c.kind=0
   ·simp only [fC k0,Bool.not_true,aK];by_cases hm:c.name ∈ hs
    ·have Oi:lY hs r c = [fm r c]:=(by unfold lY;rw [if_pos ⟨k0,hm⟩]);rw [Oi] at iM;simp only [fC hm,Bool.not_true,aK,if_pos hm,aS,reduceAdd,reduceEqDiff,reduceIte,ak k1,bM]
     have J:∀ e':Env,e' 0 = .ptr P 0->e' 3 = .bool ch->e' 5 = .ptr h'.next 0->e' 8 = .int .i64 ((cur c.name+(fm r c).w:Nat):Int)->e' 13=an aQ 3 rules->e' 14 = .int .i64 (rules.l.length:Int)->e' 15 = .int .i64 (i:Int)->e' 20=an bM 4 r.body->e' 21 = .int .i64 (r.body.l.length:Int)->e' 22 = .int .i64 (j:Int) ->
       F.bt.J0 K2 ⟨e',71,[],H2⟩=true:=by
      intro e' e0 e3 e5 e8 pV oK nQ GR Al A9;rw [F.bt.CA];simp only [e0,e5,e8,aS,reduceAdd,reduceEqDiff,reduceIte,ct,ak gP2,ak WX,aQ,QO.Uy,if_pos hin];by_cases hlt:cur r.name<cur c.name+(fm r c).w
      ·obtain ⟨born,h3,q1,q2,q3,q4,q5⟩:=QO.adi (e:=fm r c) hin hlt;have q1':lu .string (.int .i64 0) (.map M) (.str r.name) H2=some (.tuple [.int .i64 (cur r.name:Int),.int .i64 born],H2):=q1;have q2':iZ (.map M) (.int .i64 born) (.int .i64 ((cur c.name+(fm r c).w:Nat):Int)) H2=some h3:=q2;simp only [bp hlt,aL,e0,e5,e8,A9,aS,reduceAdd,reduceEqDiff,reduceIte,ct,ak gP2,ak WX,aQ,q1',q2',aJ hj hbig];refine Pq _ _ ⟨_,true,?_,q3,fun x=>?_,fun b hb1 hb2=>by rw [q4 b hb2];exact fr2 b hb1 hb2,?_,by omega,e0,rfl,e5,pV,oK,nQ,GR,Al,rfl⟩
       ·rw [iM,<- append_assoc];exact rs.up hlt
       ·have:=eA.sj (e:=fm r c) bd (by unfold fm;simp only;split<;>omega) x;omega
       ·rw [q4 _ (by omega)];exact WX
      ·simp only [eV (by omega:¬ ((cur r.name:Int)<((cur c.name+(fm r c).w:Nat):Int))),aK,A9,aJ hj hbig,aq];exact Pq _ _ ⟨cur,ch,by rw [iM,<- append_assoc];exact rs.same hlt,QO,fun x=>by have:=bd x;omega,fr2,WX,by omega,e0,e3,e5,pV,oK,nQ,GR,Al,rfl⟩
     cases hng:c.neg with
     |true=>
      have hw:(fm r c).w=1:=(by unfold fm;simp [hng]);have C6:=aJ (i:=cur c.name) (n:=2000000) (by have:=bd c.name;omega) (by unfold cM;omega);simp only [aL,C6,aq];exact J _ e0 e3 e5 (by rw [hw];rfl) pV oK nQ GR Al A9
     |false=>
      have hw:(fm r c).w=0:=(by unfold fm;simp [hng]);simp only [aK];exact J _ e0 e3 e5 (by rw [hw];rfl) pV oK nQ GR Al A9
    ·have Oi:lY hs r c = []:=(by unfold lY;rw [if_neg (fun h=>hm h.2)]);rw [Oi,append_nil] at iM;simp only [eV hm,Bool.not_false,aL,aJ hj hbig,aq];exact Pq _ _ ⟨cur,ch,by rw [iM];exact rs,QO,fun x=>by have:=bd x;omega,fr2,WX,by omega,e0,e3,e5,pV,oK,nQ,GR,Al,rfl⟩
   ·have Oi:lY hs r c = []:=(by unfold lY;rw [if_neg (fun h=>k0 h.1)]);rw [Oi,append_nil] at iM;simp only [eV k0,Bool.not_false,aL,aJ hj hbig,aq];exact Pq _ _ ⟨cur,ch,by rw [iM];exact rs,QO,fun x=>by have:=bd x;omega,fr2,WX,by omega,e0,e3,e5,pV,oK,nQ,GR,Al,rfl⟩
  ·rintro e h2 ⟨cur,ch,rs,la,bd,fr,gR,oW,e0,e3,e5,pV,oK,nQ,GR,Al,A9⟩ K2 fY;rw [F.bt.dm];simp only [Al,A9,aS,reduceAdd,reduceEqDiff,reduceIte,aX];rw [fY,F.bt.cx];simp only [nQ,aS,reduceAdd,reduceEqDiff,reduceIte,aJ hi (show rules.l.length<=cM by unfold cM;omega),aq];rw [jW (dN _),<- C5 hv] at rs;exact hn _ _ ⟨cur,ch,rs,la,fun x=>by have:=bd x;omega,fr,by omega,e0,e3,pV,oK,rfl⟩
 ·rintro e h' ⟨cur,ch,rs,la,bd,fr,DQ,e0,e3,pV,oK,nQ⟩ K' hx;rw [F.bt.aU];simp only [oK,nQ,aS,reduceAdd,reduceEqDiff,reduceIte,aX];rw [hx,F.bt.aG];rw [jW (dN _)] at rs;obtain ⟨d1,d2⟩:=rs.done;simp only [bP,reduceEqDiff,reduceIte,e3];rw [d2];rw [d1] at la;exact hK h' la fr DQ
theorem aaf(x:Sl aP)(A M:Nat):iA [.ay,.jJ,.jJ] [(0,1),(1,1),(2,1)] [an aQ 3 x,.map A,.map M]=some (.agg [an aQ 3 x,.map A,.map M]):=by cases x<;>rfl
theorem aag(x:Sl aP)(A M:Nat):eY (.agg [an aQ 3 x,.map A,.map M])=some [an aQ 3 x,.map A,.map M]:=c8 (by simp only [bw,fT];rfl)
def C7(m:eE)(nm:cc)(n:Nat):Option eE:=match m.find nm with
 |none=>some (m.qY nm n)
 |some k=>if k=(n:Int) then some (m.qY nm n) else none
def nF:List eP->eE->Option eE
 |[],m=>some m
 |c :: cs,m=>bif gI c then (if c.kind=0 then (match C7 m c.name c.args.l.length with|none=>none|some m'=>nF cs m') else nF cs m) else none
def dW:List aP->eE->Option eE
 |[],m=>some m
 |r :: rs,m=>bif mz r.name r.args.l then (match C7 m r.name r.args.l.length with
   |none=>none
   |some m1=>if 20<r.body.l.length then none else if 12<(varsOf r).length then none else match nF r.body.l m1 with
    |none=>none
    |some m2=>dW rs m2) else none
theorem Fq{l:List α}{i:Nat}{a:α}(h:l[i]?=some a):l.drop i=a :: l.drop (i+1):=by
 have hi:i<l.length:=(ki.1 h).1;rw [drop_eq_getElem_cons hi];rw [ew hi] at h;cases h;rfl
theorem fy.add(l:fy hs h M ks (fun _=>0))(hn:ks.Nodup)(nm:cc) :
  ∃ h' ks',eS .string (.map M) (.str nm) (.int .i64 0) h=some h'/\fy (hs++[nm]) h' M ks' (fun _=>0)/\ks'.Nodup/\(∀ b,b≠M->h'.get b=h.get b)/\h'.next=h.next:=by
 obtain ⟨es,ck,m,h1,h2,h3,h4,h5⟩:=l.ex;obtain ⟨xA,Gu,q1,q2⟩:=Cj h1 h2 nm 0;have g:(h.set M (.map xA Gu)).get M=some (.map xA Gu):=by rw [Heap.aN,if_pos rfl]
 refine ⟨_,(m.qY nm 0).map (·.1),q1,⟨xA,Gu,_,g,q2,vM h1 h3 q1 g,rfl,fun x=>?_⟩,Fo (by rw [h4];exact hn) nm 0,fun b hb=>by rw [Heap.aN,if_neg hb],Heap.br _ _ _⟩;rw [uE,h5];by_cases hx:x=nm
 ·subst hx;simp
 ·simp [hx]
theorem fy.mem(l:fy hs h M ks lv)(x:cc):x ∈ ks↔x ∈ hs:=by
 obtain ⟨es,ck,m,h1,h2,h3,h4,h5⟩:=l.ex;rw [<- h4];constructor
 ·intro hx;obtain ⟨p,hp,rfl⟩:=mem_map.1 hx;have h6:=h5 p.1;by_cases hh:p.1 ∈ hs
  ·exact hh
  ·rw [if_neg hh] at h6;unfold eE.find at h6;rw [map_eq_none_iff,find?_eq_none] at h6;exact absurd (h6 p hp) (by simp)
 ·intro hx;have h6:=h5 x;rw [if_pos hx] at h6;exact mem_map.2 ⟨_,qv h6,rfl⟩
theorem fy.len(l:fy hs h M ks lv):bX .map (.map M) h=some (.int .i64 (ks.length:Int)):=by
 obtain ⟨es,ck,m,h1,h2,h3,h4,h5⟩:=l.ex
 have:∀ (es:List Entry) (m:eE),j9 es m->es.length=m.length:=by
  intro es
  induction es with
  |nil=>intro m hm;cases m with
   |nil=>rfl
   |cons p m=>exact hm.elim
  |cons e es ih=>intro m hm;cases m with
   |nil=>exact hm.elim
   |cons p m=>rw [length_cons,length_cons,ih m hm.2.2]
 have hl:=this es m h2;rw [<- h4,length_map,<- hl];simp [bX,lN,h1]
theorem C8:∀ {E:List eA.Edge} {L:eA.Lv} {N:Nat},(∀ e ∈ E,e.w<=1)->(∀ x,L x<=N)->∀ x,E.foldl eA.gX L x<=N+E.length
 |[],L,N,_,h,x=>h x
 |e :: E,L,N,hw,h,x=>by
  have:=C8 (E:=E) (L:=eA.gX L e) (N:=N+1) (fun f hf=>hw f (mem_cons_of_mem _ hf)) (eA.sj h (hw e mem_cons_self)) x;rw [length_cons];show E.foldl eA.gX (eA.gX L e) x<=_;omega
theorem C9(hs:List cc)(r:aP):∀ cs:List eP,(nk hs r cs).length<=cs.length
 |[]=>dN _
 |c :: cs=>by
  have:=C9 hs r cs;have h1:(lY hs r c).length<=1:=by unfold lY;split<;>simp
  show (lY hs r c++nk hs r cs).length<=_;rw [length_append,length_cons];omega
theorem Fs(hs:List cc):∀ rs:List aP,(∀ r ∈ rs,r.body.l.length<=20)->(jl hs rs).length<=rs.length*20
 |[],_=>dN _
 |r :: rs,h=>by
  have h1:=Fs hs rs fun q hq=>h q (mem_cons_of_mem _ hq);have h2:=C9 hs r r.body.l;have h3:=h r mem_cons_self;show (nk hs r r.body.l++jl hs rs).length<=_;rw [length_append,length_cons];omega
theorem tF{rs:List aP}{e:eA.Edge}(he:e ∈ jl hs rs):∃ r ∈ rs,∃ c ∈ r.body.l,c.kind=0/\c.name ∈ hs/\e=fm r c:=by
 obtain ⟨r,hr,he⟩:=mem_flatMap.1 he;obtain ⟨c,hc,he⟩:=mem_flatMap.1 he;unfold lY at he;split at he
 ·rename_i h;rw [mem_singleton] at he;exact ⟨r,hr,c,hc,h.1,h.2,he⟩
 ·cases he
theorem KC(r:aP)(c:eP):(fm r c).w<=1:=by unfold fm;simp only;split<;>omega
theorem jf:∀ {rs:List aP} {m m':eE},dW rs m=some m'->∀ r ∈ rs,mz r.name r.args.l=true/\r.body.l.length<=20/\(varsOf r).length<=12
 |[],_,_,_,r,hr=>by cases hr
 |r0 :: rs,m,m',h,r,hr=>by
  rw [dW] at h
  cases ha:mz r0.name r0.args.l with
  |false=>rw [ha] at h;cases h
  |true=>
   rw [ha,cond_true] at h;split at h
   ·cases h
   ·split at h
    ·cases h
    ·split at h
     ·cases h
     ·split at h
      ·cases h
      ·rcases mem_cons.1 hr with rfl|hr
       ·exact ⟨ha,by omega,by omega⟩
       ·exact jf h r hr
def bF(rs:List aP):List cc:=rs.map (·.name)
def bL(rs:List aP):List eA.Edge:=jl (bF rs) rs
structure kN (rs:List aP):Prop where
 mj:rs.length<=60
 go:∃ m,dW rs []=some m
 lev:∃ k,eA.dy (bL rs) (eA.iter (bL rs) k)
theorem wN{rs:List aP}(se:rs.length<=60)(uD:∀ r ∈ rs,r.body.l.length<=20):∀ k x,eA.iter (bL rs) k x<=k*1200
 |0,x=>zero_le _
 |k+1,x=>by
  have h1:=C8 (E:=bL rs) (L:=eA.iter (bL rs) k) (N:=k*1200) (fun e he=>by obtain ⟨r,_,c,_,_,_,rfl⟩:=tF he;exact KC r c) (wN se uD k) x;have h2:(bL rs).length<=rs.length*20:=Fs _ rs uD;show (bL rs).foldl eA.gX (eA.iter (bL rs) k) x<=_;omega
def Ni(m:eE)(nm:cc)(n:Nat):Bool:=match m.find nm with|none=>true|some k=>decide (k=(n:Int))
theorem Ft(m:eE)(nm:cc)(n:Nat):C7 m nm n=if Ni m nm n=true then some (m.qY nm n) else none:=by
 unfold C7 Ni
 cases m.find nm with
 |none=>rfl
 |some k=>by_cases h:k=(n:Int)<;>simp [h]
theorem ID(n:Int):bw (encI n)=true:=rfl
theorem Pr(n:Int):fZ [.int .i64 0] [(0,1)] [.int .i64 n]=some (encI n):=rfl
theorem IE(h:ej s=true):s.length<=12:=by
 cases s with
 |nil=>exact zero_le _
 |cons c s=>
  simp only [ej,and_eq_true] at h;simp only [decide_eq_true_eq] at h;omega
theorem wO{xs:List cc}(h:mz nm xs=true):ej nm=true:=by
 unfold mz at h;rw [and_eq_true] at h;exact h.1
theorem fy.adl(l:fy hs h M ks lv)(Bz:ks.Nodup)(hlen:∀ s ∈ ks,s.length<=1000) :
  ∃ es ck,h.get M=some (.map es ck)/\rf ck es=true/\es.map keyBytes=ks/\es.length=ks.length:=by
 obtain ⟨es,ck,m,h1,h2,h3,h4,h5⟩:=l.ex;have hk:es.map keyBytes=ks:=by rw [L9 h2,h4]
 refine ⟨es,ck,h1,Fp (fun e he=>?_) (by rw [hk];exact Bz) h3.nodup,hk,by rw [<- hk,length_map]⟩;obtain ⟨p,hp,q1,q2⟩:=h2.mem e he;exact ⟨⟨p.1,q1,hlen _ (by rw [<- h4];exact List.mem_map_of_mem hp)⟩,h3.lt e he⟩
def cZ(t:Sl Int):List AV:=[an encI 1 t]
theorem qw(t:Sl Int):(cZ t).length=1:=rfl
theorem mN(t:Sl Int):AV.cO (cZ t)=true:=by simp [cZ,AV.cO,cp j6]
theorem ij{l:List (Sl Int)}{i:Nat}{t:Sl Int}(ht:l[i]?=some t):ah none (.dQ (l.flatMap cZ) (i*1)) h=some (an encI 1 t):=by
 rw [wq qw ht];rfl
section
variable {α:Type} {enc:α->List AV} {sz k:Nat}
end
abbrev PB:=Nat×List Int
def Nj(p:PB):List AV:=[.slice p.1 0 p.2.length 1]
theorem Pt(p:PB):(Nj p).length=1:=rfl
theorem Pu(p:PB):bw (Nj p)=true:=rfl
structure Da (k:Nat) (h:Heap) (a:AV) (ps:List PB):Prop where
 own:Own Nj 1 k h a ps
 cell:∀ p ∈ ps,k<=p.1/\p.1<h.next/\cz a≠some p.1/\h.get p.1=some (.cells (p.2.map iv))
theorem Da.nil(k:Nat)(h:Heap):Da k h .ay []:=⟨.nil,fun p hp=>by cases hp⟩
theorem Da.ext{k:Nat}{h h':Heap}{a:AV}{ps:List PB}(n:Da k h a ps)(hx:bC h h'):Da k h' a ps:=
 ⟨n.own.ext hx,fun p hp=>by
  obtain ⟨h1,h2,h3,h4⟩:=n.cell p hp
  exact ⟨h1,Nat.lt_of_lt_of_le h2 hx.next,h3,by rw [hx.get _ h2];exact h4⟩⟩
theorem Da.yJ{old:Bool}{ps:List PB}(n:Da k h a ps):∃ x:Sl (Sl Int),x.l.map Sl.l=ps.map (·.2)/\Fz old h a (an cZ 1 x):=by
 obtain ⟨o,hc⟩:=n
 cases o with
 |nil=>exact ⟨none,rfl,.scalar _ rfl⟩
 |row b ps h1 h2 h3=>
  refine ⟨some (ps.map fun p=>some p.2),by simp [List.map_map,Function.comp_def],?_⟩
  have e1:ps.flatMap Nj=ps.map fun p=>AV.slice p.1 0 p.2.length 1:=by
   induction ps with
   |nil=>rfl
   |cons p ps ih=>rw [flatMap_cons,map_cons];exact congrArg _ (by
     clear ih h3 hc
     induction ps with
     |nil=>rfl
     |cons q ps ih=>rw [flatMap_cons,map_cons,ih];rfl)
  have e2:(ps.map fun p=>(some p.2:Sl Int)).flatMap cZ=ps.map fun p=>an encI 1 (some p.2):=by
   clear h3 hc e1
   induction ps with
   |nil=>rfl
   |cons q ps ih=>rw [map_cons,flatMap_cons,map_cons,ih];rfl
  rw [e1] at h3
  have hf:Fz old h (.slice b 0 ps.length 1) (.ax (ps.map fun p=>an encI 1 (some p.2)) 0 ps.length 1):=by
   refine .slice b 0 ps.length 1 _ _ h3 (by simp) fun i x y hx hy=>?_;rw [getElem?_map] at hx hy;obtain ⟨p,hp,rfl⟩:=map_eq_some_iff.1 hx;rw [hp] at hy;cases hy;exact ym (hc p (iq hp)).2.2.2
  have:an cZ 1 (some (ps.map fun p=>(some p.2:Sl Int))) = .ax (ps.map fun p=>an encI 1 (some p.2)) 0 ps.length 1:=by
   simp only [an,e2,length_map]
  rw [this];exact hf
theorem Da.push{k:Nat}{h:Heap}{a:AV}{ps:List PB}(n:Da k h a ps)(hk:k<=h.next)(hroom:(ps.length+1)*24<=cJ)(p:PB)(p1:k<=p.1)(p2:p.1<h.next)(p3:cz a≠some p.1)(p4:h.get p.1=some (.cells (p.2.map iv))) :
  ∃ a' h',cj 1 24 a (.slice h.next 0 1 1) (h.alloc (.cells (Nj p)))=some (a',h')/\Da k h' a' (ps++[p])/\h.next<=h'.next/\(∀ c,c<h.next->cz a≠some c->h'.get c=h.get c)/\(∀ h0,bC h0 h->h0.next<=k->bC h0 h')/\∀ c,cz a'=some c->h.next<=c:=by
 obtain ⟨a',h',e1,o1,f1,n1,x1,b1⟩:=n.own.push Pt Pu hk hroom p;refine ⟨a',h',e1,⟨o1,fun q hq=>?_⟩,n1,f1,x1,b1⟩
 have pq:k<=q.1/\q.1<h.next/\cz a≠some q.1/\h.get q.1=some (.cells (q.2.map iv)):=by
  rcases mem_append.1 hq with hq|hq
  ·exact n.cell q hq
  ·rw [mem_singleton] at hq;subst hq;exact ⟨p1,p2,p3,p4⟩
 obtain ⟨q1,q2,q3,q4⟩:=pq;exact ⟨q1,by omega,fun hb=>by have:=b1 _ hb;omega,by rw [f1 _ q2 q3];exact q4⟩
theorem KD(h1:1<=n){i:Nat}(h:i<=k):n ^ i<=n ^ k:=Nat.pow_le_pow_right h1 h
theorem tG(n:Nat):∀ (a b:List Int) (r:Nat),vp n (a++b) r=vp n b (vp n a r)
 |[],_,_=>rfl
 |x :: a,b,r=>tG n a b _
theorem Mc{n:Nat}:∀ (l:List Int) (r i:Nat),jy n l=true->r<n ^ i->vp n l r<n ^ (i+l.length)
 |[],r,i,_,h=>h
 |x :: l,r,i,hb,h=>by
  simp only [jy,all_cons,and_eq_true,not_eq_true',decide_eq_false_iff_not] at hb
  have:r*n+x.toNat<n ^ (i+1):=by
   have h1:(r+1)*n<=n ^ i*n:=mul_le_mul_right n h;rw [succ_mul] at h1;rw [Nat.pow_succ];omega
  have:=Mc l (r*n+x.toNat) (i+1) (by rw [jy,List.all_eq_true];simpa using hb.2) this;rw [length_cons,show i+(l.length+1)=i+1+l.length by omega];exact this
theorem wP{l:List Int}(hb:jy n l=true):ni n l<n ^ l.length:=by
 have:=Mc l 0 0 hb (by simp);rw [Nat.zero_add] at this;exact this
theorem Pv{l:List Int}{i:Nat}(hv:l[i]?=some v):ni n (l.take (i+1))=ni n (l.take i)*n+v.toNat:=by
 rw [ni,take_add_one,hv,tG];rfl
theorem Ta{n:Int}{l:List Int}(hb:jy n l=true)(i:Nat):jy n (l.take i)=true:=by
 unfold jy at hb ⊢;rw [List.all_eq_true] at hb ⊢;exact fun x hx=>hb x (mem_of_mem_take hx)
theorem Pw{n:Int}{l:List Int}(hb:jy n l=true){i:Nat}(hv:l[i]?=some v):0<=v/\v<n:=by
 unfold jy at hb;rw [List.all_eq_true] at hb;have:=hb v (iq hv);simp at this;omega
theorem yp{l:List Int}(hb:jy n l=true)(h1:1<=n)(hc:n ^ l.length<=4096){i:Nat}(hv:l[i]?=some v) :
  aI .mul (.int .i64 ((ni n (l.take i):Nat):Int)) (.int .i64 (n:Int))=some (.int .i64 ((ni n (l.take i)*n:Nat):Int)) /\
  aI .add (.int .i64 ((ni n (l.take i)*n:Nat):Int)) (.int .i64 v)=some (.int .i64 ((ni n (l.take (i+1)):Nat):Int)):=by
 have hi:i<l.length:=(ki.1 hv).1;have hlt:ni n (l.take (i+1))<n ^ (l.take (i+1)).length:=wP (Ta hb _);have hp:n ^ (l.take (i+1)).length<=4096:=Nat.le_trans (KD h1 (by rw [length_take];omega)) hc;obtain ⟨v0,v1⟩:=Pw hb hv;have he:ni n (l.take (i+1))=ni n (l.take i)*n+v.toNat:=Pv hv;have hm:((ni n (l.take i):Nat):Int)*(n:Int)=((ni n (l.take i)*n:Nat):Int):=by rw [Int.natCast_mul]
 have hs:((ni n (l.take i)*n:Nat):Int)+v=((ni n (l.take (i+1)):Nat):Int):=by omega
 exact ⟨by rw [uv (by rw [hm];omega) (by rw [hm];omega),hm],by rw [je (by rw [hs];omega) (by rw [hs];omega),hs]⟩
def dw:List Int->List Int->Bool
 |a :: l,b :: m=>if a=b then dw l m else decide (a<b)
 |_,_=>false
structure Rel where
 name:cc
 arity:Int
 aO:Sl (Sl Int)
structure cN where
 size:Int
 aF:Sl Rel
def EF(p:Nat->Bool)(n:Nat):Bool:=(List.range n).all p
def lZ(n k:Nat)(l:List (Sl Int))(i:Nat):Bool:=match l[i]? with
 |none=>true
 |some t=>decide (t.l.length=k)&&(jy n t.l&&(match i with
  |0=>true
  |j+1=>match l[j]? with
   |none=>true
   |some p=>dw p.l t.l))
def yq(n k:Nat)(l:List (Sl Int)):Bool:=EF (lZ n k l) l.length
def nq(n:Nat)(r:Rel):Bool:=ej r.name&&(decide (0<=r.arity)&&(decide (r.arity<=12)&&(decide (n ^ r.arity.toNat<=4096)&&yq n r.arity.toNat r.aO.l)))
def oL(s:cN)(i:Nat):Bool:=match s.aF.l[i]? with
 |none=>true
 |some r=>nq s.size.toNat r&&!((s.aF.l.take i).any fun q=>q.name==r.name)
def de(s:cN):Bool:=decide (1<=s.size)&&(decide (s.size<=64)&&(decide (s.aF.l.length<=8)&&EF (oL s) s.aF.l.length))
theorem IF{es:List Entry}{ck:Nat}{m:mK}(hb:h.get b=some (.map es ck))(hm:tr es m)(z:AV)(k:cc) :
  dV .string z false (.map b) (.str k) h=some ((m.find k).getD z):=by
 obtain ⟨r,hr,uy⟩:=tr.jD (k:=k) 0 hm;simp only [dV,lN,hb,qb,p9,if_true,hr]
 cases r with
 |none=>simp at uy;simp [uy]
 |some jv=>
  obtain ⟨n,_,b,_⟩:=uy;obtain ⟨j,v⟩:=jv;simp [b]
def bv(b:Bool):AV:=.bool b
theorem GS{i:Nat}{v:Bool}(hb:h.get b=some (.cells (d.map bv)))(hv:d[i]?=some v):ah none (.ptr b i) h=some (.bool v):=by
 rw [ak hb,ur,getElem?_map,hv];rfl
theorem IG{i:Nat}{v:Bool}(hb:h.get b=some (.cells (d.map bv)))(hi:i<d.length):aZ 1 (.ptr b i) (.bool v) h=some (h.set b (.cells ((d.set i v).map bv))):=by
 rw [cB (n:=1) hb rfl rfl (by simp;omega),map_set];rfl
theorem VP(n:Nat):jb [.bool false] n=(replicate n false).map bv:=by
 induction n with
 |zero=>rfl
 |succ n ih=>rw [jb,ih];rfl
theorem Md(hn:n<=1000000)(h:Heap):gG 1 1 [.bool false] (.int .i64 (n:Int)) (.int .i64 (n:Int)) h=some (.slice h.next 0 n 1,h.alloc (.cells ((replicate n false).map bv))):=by
 have:((n:Int))<=140737488355328:=by omega
 simp [gG,yK,this,VP]
def oM(n:Nat):List (Sl Int)->List Bool->List Bool
 |[],d=>d
 |t :: ts,d=>oM n ts (d.set (ni n t.l) true)
theorem Nk{l:List (Sl Int)}{i:Nat}{t:Sl Int}(ht:l[i]?=some t)(d:List Bool):oM n (l.drop i) d=oM n (l.drop (i+1)) (d.set (ni n t.l) true):=by
 have h1:=(ki.1 ht).1;rw [drop_eq_getElem_cons h1];rw [ew h1] at ht;cases ht;rfl
theorem Db(n:Nat):∀ (l:List (Sl Int)) (d:List Bool),(oM n l d).length=d.length
 |[],_=>rfl
 |t :: l,d=>by rw [oM,Db n l];simp
def bitsOf(n k:Nat)(ts:List (Sl Int)):List Bool:=oM n ts (replicate (n ^ k) false)
theorem KE(n k:Nat)(ts:List (Sl Int)):(bitsOf n k ts).length=n ^ k:=by rw [bitsOf,Db];simp
structure er (D:cc->Option (Nat×List Bool)) (h:Heap) (B lo:Nat):Prop where
 ex:∃ es ck m,h.get B=some (.map es ck)/\tr es m/\∀ nm,m.find nm=(D nm).map fun p=>.slice p.1 0 p.2.length 1
 Co:∀ nm p,D nm=some p->lo<=p.1/\p.1<h.next/\p.1≠B/\h.get p.1=some (.cells (p.2.map bv))
 inj:∀ nm nm' p p',D nm=some p->D nm'=some p'->p.1=p'.1->nm=nm'
 lt:B<h.next
theorem er.ext{lo:Nat}(b:er D h B lo)(hx:bC h h'):er D h' B lo:=by
 obtain ⟨es,ck,m,h1,h2,h3⟩:=b.ex;refine ⟨⟨es,ck,m,by rw [hx.get _ b.lt];exact h1,h2,h3⟩,fun nm p hp=>?_,b.inj,Nat.lt_of_lt_of_le b.lt hx.next⟩;obtain ⟨q1,q2,q3,q4⟩:=b.Co nm p hp;exact ⟨q1,Nat.lt_of_lt_of_le q2 hx.next,q3,by rw [hx.get _ q2];exact q4⟩
def bY(r:Rel):cc×Int×List (List Int):=(r.name,r.arity,r.aO.l.map Sl.l)
abbrev Nl:=cc×Int×List (List Int)
def m4(d:Nl):cc×Int:=(d.1,d.2.1)
def kO(D:cc->Option (Nat×List Bool))(nm:cc)(b:Nat)(d:List Bool):cc->Option (Nat×List Bool):=fun j=>if j=nm then some (b,d) else D j
theorem er.set{D:cc->Option (Nat×List Bool)}{h:Heap}{B lo:Nat}(H:er D h B lo){nm:cc}{p:Nat×List Bool}(hp:D nm=some p){d:List Bool}(hd:d.length=p.2.length):er (kO D nm p.1 d) (h.set p.1 (.cells (d.map bv))) B lo:=by
 obtain ⟨es,ck,m,h1,h2,h3⟩:=H.ex;obtain ⟨k1,k2,k3,k4⟩:=H.Co nm p hp;refine ⟨⟨es,ck,m,by rw [Heap.aN,if_neg (Ne.symm k3)];exact h1,h2,fun j=>?_⟩,fun j q hq=>?_,fun j j' q q' hq pq VQ=>?_,by rw [Heap.br];exact H.lt⟩
 ·rw [h3];unfold kO;by_cases e:j=nm
  ·subst e;rw [if_pos rfl,hp,map_some,map_some,hd]
  ·rw [if_neg e]
 ·unfold kO at hq;by_cases e:j=nm
  ·rw [if_pos e] at hq;cases hq;exact ⟨k1,by rw [Heap.br];exact k2,k3,by rw [Heap.aN,if_pos rfl]⟩
  ·rw [if_neg e] at hq;obtain ⟨q1,q2,q3,q4⟩:=H.Co j q hq;exact ⟨q1,by rw [Heap.br];exact q2,q3,by rw [Heap.aN,if_neg (fun e'=>e (H.inj j nm q p hq hp e'))];exact q4⟩
 ·unfold kO at hq pq;by_cases e:j=nm
  ·by_cases e':j'=nm
   ·rw [e,e']
   ·rw [if_pos e] at hq;rw [if_neg e'] at pq;cases hq;exact absurd (H.inj nm j' p q' hp pq VQ).symm e'
  ·by_cases e':j'=nm
   ·rw [if_neg e] at hq;rw [if_pos e'] at pq;cases pq;exact absurd (H.inj j nm q p hq hp VQ) e
   ·rw [if_neg e] at hq;rw [if_neg e'] at pq;exact H.inj j j' q q' hq pq VQ
theorem KF{R:AV}(hS:h.get S=some (.cells [.int .i64 (n:Int),R]))(h1:1<=n){x:Sl Int}(hx:x.l.length<=12)(hc:n ^ x.l.length<=4096)(hb:jy n x.l=true)
  (hK:K (.ret (.int .i64 ((ni n x.l:Nat):Int))) h=true):Sem TP 101 [.ptr S 0,an encI 1 x] h K:=by
 have hbig:x.l.length<=cM:=by unfold cM;omega
 refine F.mY ?_;rw [F.nr];simp only [aS,reduceAdd,reduceEqDiff,reduceIte];refine aE 0 x.l.length (zero_le _) (fun i e h'=>h'=h/\e 0 = .ptr S 0/\e 5 = .int .i64 ((ni n (x.l.take i):Nat):Int)/\e 8=an encI 1 x/\e 9 = .int .i64 (x.l.length:Int)/\e 10 = .int .i64 (i:Int)) ⟨rfl,rfl,rfl,rfl,rfl,rfl⟩ ?_ ?_
 ·rintro i e h' _ hi ⟨rfl,e0,e5,e8,e9,jF⟩ K' hn gm hr hp;have hv:x.l[i]?=some x.l[i]:=ew hi;rw [F.di.aU];simp only [e0,e5,e8,e9,jF,aS,reduceAdd,reduceEqDiff,reduceIte,ct,ak hS,bp hi,aV x hi,iW hv,(yp hb h1 hc hv).1,(yp hb h1 hc hv).2,aJ hi hbig];exact hn _ _ ⟨rfl,e0,rfl,e8,e9,rfl⟩
 ·rintro e h' ⟨rfl,e0,e5,e8,e9,jF⟩ K' gm;rw [F.di.aU];simp only [e9,jF,aS,reduceAdd,reduceEqDiff,reduceIte,aX];rw [gm,F.di.aG];simp only [e5,bP,reduceEqDiff,reduceIte];rw [jW (dN _)];exact hK
def eu(vs:List Int)(ps:List Nat):List Int:=ps.map fun p=>vs.getD p 0
theorem Me(hV:h.get V=some (.cells (vs.map iv)))(VS:V<h.next)(hn:n=vs.length){ps:List Nat}{x:Sl Int}(hxp:x.l=ps.map fun (p:Nat)=>(p:Int))(we:∀ p ∈ ps,p<vs.length)(sE:ps.length<=1000000)
  (hK:∀ h',h'.get h.next=some (.cells ((eu vs ps).map iv))->bC h h'->h.next<h'.next->K (.ret (.slice h.next 0 ps.length 1)) h'=true):Sem TP 121 [.slice V 0 n 1,an encI 1 x] h K:=by
 subst hn;have Uz:ps.length<=cM:=by unfold cM;omega
 have hl:x.l.length=ps.length:=by rw [hxp];simp
 refine F.CE ?_;rw [F.El];simp only [aS,reduceAdd,reduceEqDiff,reduceIte,hl,By sE];have g0:=aB h (.cells ((replicate ps.length (0:Int)).map iv));have x0:=bC.alloc h (.cells ((replicate ps.length (0:Int)).map iv));have n0:(h.alloc (.cells ((replicate ps.length (0:Int)).map iv))).next=h.next+1:=Heap.aM _ _
 generalize h.alloc (.cells ((replicate ps.length (0:Int)).map iv))=H at g0 x0 n0 ⊢
 refine aE 0 ps.length (zero_le _) (fun i e h'=>∃ d:List Int,d.length=ps.length/\d.take i=(eu vs ps).take i/\h'.get h.next=some (.cells (d.map iv))/\bC h h'/\h.next<h'.next /\
  e 0 = .slice V 0 vs.length 1/\e 5 = .slice h.next 0 ps.length 1/\e 11=an encI 1 x/\e 12 = .int .i64 (ps.length:Int)/\e 13 = .int .i64 (i:Int)) ⟨replicate ps.length 0,by simp,rfl,g0,x0,by omega,rfl,rfl,rfl,rfl,rfl⟩ ?_ ?_
 ·rintro i e h' _ hi ⟨d,dl,dt,q0,qx,qn,e0,e5,oX,Ba,pV⟩ K' hn hx hr hp;have hv:ps[i]?=some ps[i]:=ew hi;generalize ps[i]=p at hv;have HC:x.l[i]?=some (p:Int):=by rw [hxp,getElem?_map,hv];rfl
  have WT:=we p (iq hv);have hw:vs[p]?=some (vs.getD p 0):=by rw [getD_eq_getElem?_getD,ew WT];rfl
  have qV:h'.get V=some (.cells (vs.map iv)):=by rw [qx.get V VS];exact hV
  have i1:=aV (enc:=encI) (sz:=1) (k:=.i64) x (i:=i) (by rw [hl];exact hi);have l1:=fun h=>iW (x:=x) HC (h:=h);rw [F.iK.aU];simp only [e0,e5,oX,Ba,pV,aS,reduceAdd,reduceEqDiff,reduceIte,bp hi,i1,l1,nt WT,nE qV hw,nt hi,yj q0 (show i<d.length by omega),aJ hi Uz];refine hn _ _ ⟨d.set i (vs.getD p 0),by simp [dl],?_,by rw [Heap.aN,if_pos rfl],qx.set (dN _) _,by rw [Heap.br];exact qn,e0,e5,oX,Ba,rfl⟩;have WY:(eu vs ps)[i]?=some (vs.getD p 0):=by unfold eu;rw [getElem?_map,hv];rfl
  rw [take_add_one,take_add_one,WY,take_set_of_le (dN _),dt,getElem?_set,if_pos rfl,if_pos (by omega)]
 ·rintro e h' ⟨d,dl,dt,q0,qx,qn,e0,e5,oX,Ba,pV⟩ K' hx;rw [F.iK.aU];simp only [Ba,pV,aS,reduceAdd,reduceEqDiff,reduceIte,aX];rw [hx,F.iK.aG];simp only [e5,bP,reduceEqDiff,reduceIte]
  have:d=eu vs ps:=by
   have h1:d.take ps.length=d:=jW (by omega);have h2:(eu vs ps).take ps.length=eu vs ps:=jW (by simp [eu]);rw [<- h1,dt,h2]
  rw [this] at q0;exact hK h' q0 qx qn
theorem Am{T:Nat}{R:AV}(hS:h.get S=some (.cells [.int .i64 (n:Int),R]))(h1:1<=n){t:List Int}(hT:h.get T=some (.cells (t.map iv)))(hx:t.length<=12)(hc:n ^ t.length<=4096)(hb:jy n t=true)
  (hK:K (.ret (.int .i64 ((ni n t:Nat):Int))) h=true):Sem TP 101 [.ptr S 0,.slice T 0 t.length 1] h K:=by
 have hbig:t.length<=cM:=by unfold cM;omega
 have hl:∀ h,bX .slice (.slice T 0 t.length 1) h=some (.int .i64 (t.length:Int)):=fun _=>rfl;refine F.mY ?_;rw [F.nr];simp only [aS,reduceAdd,reduceEqDiff,reduceIte,hl];refine aE 0 t.length (zero_le _) (fun i e h'=>h'=h/\e 0 = .ptr S 0/\e 5 = .int .i64 ((ni n (t.take i):Nat):Int)/\e 8 = .slice T 0 t.length 1/\e 9 = .int .i64 (t.length:Int)/\e 10 = .int .i64 (i:Int)) ⟨rfl,rfl,rfl,rfl,rfl,rfl⟩ ?_ ?_
 ·rintro i e h' _ hi ⟨rfl,e0,e5,e8,e9,jF⟩ K' hn gm hr hp;have hv:t[i]?=some t[i]:=ew hi;rw [F.di.aU];simp only [e0,e5,e8,e9,jF,aS,reduceAdd,reduceEqDiff,reduceIte,ct,ak hS,bp hi,nt hi,nE hT hv,(yp hb h1 hc hv).1,(yp hb h1 hc hv).2,aJ hi hbig];exact hn _ _ ⟨rfl,e0,rfl,e8,e9,rfl⟩
 ·rintro e h' ⟨rfl,e0,e5,e8,e9,jF⟩ K' gm;rw [F.di.aU];simp only [e9,jF,aS,reduceAdd,reduceEqDiff,reduceIte,aX];rw [gm,F.di.aG];simp only [e5,bP,reduceEqDiff,reduceIte];rw [jW (dN _)];exact hK
def eR(D:cc->Option (Nat×List Bool))(nm:cc)(r:Nat):Bool:=match D nm with|some p=>p.2.getD r false|none=>false
theorem er.look{lo:Nat}(b:er D h B lo)(hp:D nm=some p):dV .string .ay false (.map B) (.str nm) h=some (.slice p.1 0 p.2.length 1):=by
 obtain ⟨es,ck,m,h1,h2,h3⟩:=b.ex;rw [IF h1 h2,h3,hp];rfl
def iS(n:Nat)(look:cc->Nat->Bool)(c:eP)(t:List Int):Bool:=
 (if c.kind=0 then look c.name (ni n t) else if c.kind=1 then decide (t.getD 0 0=t.getD 1 0) else decide (t.getD 0 0<t.getD 1 0)) != c.neg
theorem II{lo T:Nat}(hS:h.get S=some (.cells [.int .i64 (n:Int),.map B]))(hD:er D h B lo)(n1:1<=n){c:eP}{t:List Int}(hT:h.get T=some (.cells (t.map iv)))(hTn:T<h.next)(Tb:S<h.next)
  (ht:t.length<=12) (hb:jy n t=true) (hc:c.kind=0->n ^ t.length<=4096/\∃ p,D c.name=some p/\p.2.length=n ^ t.length) (hk:c.kind=1\/c.kind=2->t.length=2) (hkk:c.kind=0\/c.kind=1\/c.kind=2)
  (hK:∀ h',bC h h'->K (.ret (.bool (iS n (eR D) c t))) h'=true):Sem TP 158 [.ptr S 0,.agg [.int .i64 c.kind,.bool c.neg,.str c.name,an encS 1 c.args],.slice T 0 t.length 1] h K:=by
 refine F.rY ?_;rw [F.sV];have hbx:eY (.agg [.int .i64 c.kind,.bool c.neg,.str c.name,an encS 1 c.args])=some (bM c):=c8 (iz c);have g0:(Heap.alloc h (.cells (bM c))).get h.next=some (.cells (bM c)):=aB _ _
 have gx:bC h (Heap.alloc h (.cells (bM c))):=bC.alloc _ _;simp only [hbx,aq];generalize (Heap.alloc h (.cells (bM c)))=H at g0 gx ⊢;have gS:H.get S=some (.cells [.int .i64 (n:Int),.map B]):=by rw [gx.get S Tb];exact hS
 have gT:H.get T=some (.cells (t.map iv)):=by rw [gx.get T hTn];exact hT
 have gD:=hD.ext gx;simp only [aS,reduceAdd,reduceEqDiff,reduceIte,ak g0,bM,cP];by_cases k0:c.kind=0
 ·obtain ⟨EG,p,hp,sE⟩:=hc k0;have EH:ni n t<p.2.length:=by rw [sE];exact wP hb
  have oN:p.2[ni n t]?=some (p.2.getD (ni n t) false):=by rw [getD_eq_getElem?_getD,ew EH];rfl
  obtain ⟨_,_,_,gp⟩:=gD.Co c.name p hp;simp only [fC k0,aL,aS,reduceAdd,reduceEqDiff,reduceIte,ct,ak gS,ak g0,bM,gD.look hp];refine ai (Am gS n1 gT ht EG hb ?_);simp only [aS,reduceAdd,reduceEqDiff,reduceIte,ak gS,ak g0,bM,gD.look hp,AV.beq_refl,Bool.and_self,Bool.and_true,if_true,nt EH,GS gp oN,Bw];have hv:iS n (eR D) c t = !(p.2.getD (ni n t) false==c.neg):=by unfold iS eR;rw [if_pos k0,hp];rfl
  rw [<- hv];exact hK H gx
 ·have h2:t.length=2:=hk (hkk.resolve_left k0);have v0:t[0]?=some (t.getD 0 0):=by rw [getD_eq_getElem?_getD,ew (by omega:0<t.length)];rfl
  have v1:t[1]?=some (t.getD 1 0):=by rw [getD_eq_getElem?_getD,ew (by omega:1<t.length)];rfl
  have i0:dM 1 (.slice T 0 t.length 1) (.int .i64 0)=some (.ptr T 0):=nt (i:=0) (by omega);have i1:dM 1 (.slice T 0 t.length 1) (.int .i64 1)=some (.ptr T 1):=nt (i:=1) (by omega);simp only [eV k0,aK];by_cases k1:c.kind=1
  ·simp only [fC k1,aL,i0,i1,nE gT v0,nE gT v1,aS,reduceAdd,reduceEqDiff,reduceIte,ak g0,bM,cP,Bw];have hv:iS n (eR D) c t = !(decide (t.getD 0 0=t.getD 1 0)==c.neg):=by unfold iS;rw [if_neg k0,if_pos k1];rfl
   rw [<- hv];exact hK H gx
  ·have k2:c.kind=2:=(hkk.resolve_left k0).resolve_left k1;simp only [eV k1,aK,fC k2,aL,i0,i1,nE gT v0,nE gT v1,aS,reduceAdd,reduceEqDiff,reduceIte,ak g0,bM,Bw];have hv:iS n (eR D) c t = !(decide (t.getD 0 0<t.getD 1 0)==c.neg):=by unfold iS;rw [if_neg k0,if_neg k1];rfl
   rw [<- hv];exact hK H gx
theorem Nn(hx:x.l.length<=cM)(hs:s ∈ x.l)(hK:K (.ret (.int .i64 (x.l.idxOf s:Int))) h=true):Sem TP 145 [an encS 1 x,.str s] h K:=by
 refine F.iE ?_;rw [F.iN];simp only [aS,reduceAdd,reduceEqDiff,reduceIte];refine aE 0 x.l.length (zero_le _) (fun i e h'=>h'=h/\e 0=an encS 1 x/\e 1 = .str s/\e 7 = .int .i64 (x.l.length:Int)/\e 8 = .int .i64 (i:Int)/\i<=x.l.idxOf s) ⟨rfl,rfl,rfl,rfl,rfl,zero_le _⟩ ?_ ?_
 ·rintro i e h' _ hi ⟨rfl,e0,e1,e7,e8,ht⟩ K' hn gm hr B2;have hv:x.l[i]?=some x.l[i]:=ew hi;have hlt:x.l.idxOf s<x.l.length:=idxOf_lt_length_of_mem hs;rw [F.bB.aU];simp only [e0,e1,e7,e8,aS,reduceAdd,reduceEqDiff,reduceIte,bp hi,aV x hi,jr hv,rA];by_cases hq:s=x.l[i]
  ·simp only [fC hq,aL];rw [hr,F.bB.bz]
   have:x.l.idxOf s=i:=by
    refine Nat.le_antisymm ?_ ht;refine Nat.le_of_not_lt fun h=>?_;have h2:=not_of_lt_findIdx (p:=fun a=>a==s) (xs:=x.l) (i:=i) h;simp [<- hq] at h2
   rw [this] at hK;exact hK
  ·simp only [eV hq,aK,aJ hi hx,aq];refine hn _ _ ⟨rfl,e0,e1,e7,rfl,?_⟩;refine Nat.lt_of_le_of_ne ht fun h=>?_;have h3:x.l[x.l.idxOf s]=s:=getElem_idxOf hlt;exact hq (by rw [<- h3];congr 1;exact h.symm)
 ·rintro e h' ⟨rfl,e0,e1,e7,e8,ht⟩ K' gm;have hlt:x.l.idxOf s<x.l.length:=idxOf_lt_length_of_mem hs;omega
def placesOf(vars xs:List cc):List Nat:=xs.map fun s=>vars.idxOf s
theorem IJ{vars:Sl cc}(hV:h.get V=some (.cells [an encS 1 vars]))(VS:V<h.next)(lM:∀ s ∈ xs.l,s ∈ vars.l)(hx:xs.l.length<=1000000)(hv:vars.l.length<=cM)
  (hK:∀ a h',Own encI 1 h.next h' a ((placesOf vars.l xs.l).map fun (p:Nat)=>(p:Int))->bC h h'->K (.ret a) h'=true):Sem TP 144 [an encS 1 xs,.ptr V 0] h K:=by
 have Mf:xs.l.length<=cM:=by unfold cM;omega
 refine F.wE ?_;rw [F.xZ];simp only [aS,reduceAdd,reduceEqDiff,reduceIte];refine aE 0 xs.l.length (zero_le _) (fun i e h'=>∃ a,Own encI 1 h.next h' a ((placesOf vars.l (xs.l.take i)).map fun (p:Nat)=>(p:Int))/\bC h h'/\e 1 = .ptr V 0/\e 4=a/\e 7=an encS 1 xs/\e 8 = .int .i64 (xs.l.length:Int)/\e 9 = .int .i64 (i:Int)) ⟨.ay,.nil,bC.refl _,rfl,rfl,rfl,rfl,rfl⟩ ?_ ?_
 ·rintro i e h' _ hi ⟨a,o,qx,e1,e4,e7,e8,e9⟩ K' hn gm hr hp;have hs:xs.l[i]?=some xs.l[i]:=ew hi;generalize xs.l[i]=s at hs;have qV:h'.get V=some (.cells [an encS 1 vars]):=by rw [qx.get V VS];exact hV
  rw [F.ff.aU];simp only [e1,e4,e7,e8,e9,aS,reduceAdd,reduceEqDiff,reduceIte,bp hi,aV xs hi,jr hs,ak qV];refine ai (Nn hv (lM s (iq hs)) ?_);obtain ⟨a2,h2,p1,p2,p3,p4,p5,p6⟩:=o.push mX ID qx.next (bytes:=8) (by have:=length_take_le i xs.l;simp only [placesOf,length_map];unfold cJ;omega) (vars.l.idxOf s:Int)
  simp only [aS,reduceAdd,reduceEqDiff,reduceIte,e4,Pr,p1,e9,aJ hi Mf];refine hn _ _ ⟨a2,?_,p5 h qx (dN _),e1,rfl,e7,e8,rfl⟩;have:placesOf vars.l (xs.l.take (i+1))=placesOf vars.l (xs.l.take i)++[vars.l.idxOf s]:=by unfold placesOf;rw [take_add_one,hs];simp
  rw [this];simpa using p2
 ·rintro e h' ⟨a,o,qx,e1,e4,e7,e8,e9⟩ K' gm;rw [F.ff.aU];simp only [e8,e9,aS,reduceAdd,reduceEqDiff,reduceIte,aX];rw [gm,F.ff.aG];rw [jW (dN _)] at o;simp only [e4,bP,reduceEqDiff,reduceIte];exact hK a h' o qx
abbrev RW:=Option (Nat×List Int)
def RW.av:RW->AV
 |none=>.ay
 |some p=>.slice p.1 0 p.2.length 1
def RW.l:RW->List Int
 |none=>[]
 |some p=>p.2
def yt(w:RW):List AV:=[w.av]
theorem IK(w:RW):(yt w).length=1:=rfl
theorem Px(w:RW):bw (yt w)=true:=by cases w<;>rfl
theorem aah(w:RW):fZ [.ay] [(0,1)] [w.av]=some (yt w):=by cases w<;>rfl
theorem Py{l:List Int}(o:Own encI 1 k h a l):∃ w:RW,a=w.av/\w.l=l/\∀ p,w=some p->k<=p.1/\p.1<h.next/\h.get p.1=some (.cells (p.2.map iv)):=by
 cases o with
 |nil=>exact ⟨none,rfl,rfl,fun p hp=>by cases hp⟩
 |row b l h1 h2 h3=>exact ⟨some (b,l),rfl,rfl,fun p hp=>by cases hp;exact ⟨h1,h2,by rw [tj];exact h3⟩⟩
theorem row_one{enc:α->List AV}(he:∀ x,(enc x).length=sz){v:α}(hb:h.get b=some (.cells (enc v))):Row enc sz h (.slice b 0 1 sz) [v]:=by
 refine ⟨rfl,?_⟩;have hl:(enc v).length=sz:=he v;simp only [iu,hb,if_true,length_singleton,Nat.one_mul,Nat.zero_add,hl,dN,drop_zero];rw [<- hl,take_length];simp
structure Hl (k:Nat) (h:Heap) (cW lW:AV) (ws:List RW) (ls:List Int) (held:List RW):Prop where
 oc:Own yt 1 k h cW ws
 ol:Own encI 1 k h lW ls
 ok:∀ w ∈ held,∀ p,w=some p->k<=p.1/\p.1<h.next/\h.get p.1=some (.cells (p.2.map iv))/\cz cW≠some p.1/\cz lW≠some p.1
 sep:∀ b,cz cW=some b->cz lW≠some b
theorem Hl.ext{k:Nat}{h h':Heap}{cW lW:AV}{ws:List RW}{ls:List Int}{held:List RW}(t:Hl k h cW lW ws ls held)(hx:bC h h'):Hl k h' cW lW ws ls held:=
 ⟨t.oc.ext hx,t.ol.ext hx,fun w hw p hp=>by
  obtain ⟨q1,q2,q3,q4⟩:=t.ok w hw p hp
  exact ⟨q1,Nat.lt_of_lt_of_le q2 hx.next,by rw [hx.get _ q2];exact q3,q4⟩,t.sep⟩
theorem Hl.hold{ws:List RW}{ls:List Int}{held:List RW}(t:Hl k h cW lW ws ls held){w:RW}(hj:∀ p,w=some p->j<=p.1/\k<=p.1/\p.1<h.next/\h.get p.1=some (.cells (p.2.map iv)))
  (hc:∀ b,cz cW=some b->b<j) (hl:∀ b,cz lW=some b->b<j):Hl k h cW lW ws ls (held++[w]):=
 ⟨t.oc,t.ol,fun v hv p hp=>by
  rcases mem_append.1 hv with hv|hv
  ·exact t.ok v hv p hp
  ·rw [mem_singleton] at hv;subst hv;obtain ⟨q1,q2,q3,q4⟩:=hj p hp
   exact ⟨q2,q3,q4,fun h=>by have:=hc _ h;omega,fun h=>by have:=hl _ h;omega⟩,t.sep⟩
theorem Hl.low{ws:List RW}{ls:List Int}{held:List RW}(t:Hl k h cW lW ws ls held){d:Nat}(hd:d<k)(x:jX):Hl k (h.set d x) cW lW ws ls held:=
 ⟨t.oc.kF hd x,t.ol.kF hd x,fun w hw p hp=>by
  obtain ⟨q1,q2,q3,q4⟩:=t.ok w hw p hp
  exact ⟨q1,by rw [Heap.br];exact q2,by rw [Heap.aN,if_neg (by omega)];exact q3,q4⟩,t.sep⟩
theorem Hl.push{ws:List RW}{ls:List Int}{held:List RW}(t:Hl k h cW lW ws ls held)(hk:k<=h.next)(hw:ws.length<=1000000)(hl:ls.length<=1000000)(w:RW)(x:Int) :
  ∃ c' l' h2 h3,cj 1 24 cW (.slice h.next 0 1 1) ((h.alloc (.cells (yt w))).alloc (.cells (encI x)))=some (c',h2)/\cj 1 8 lW (.slice (h.next+1) 0 1 1) h2=some (l',h3) /\
   Hl k h3 c' l' (ws++[w]) (ls++[x]) held/\(∀ c,c<k->h2.get c=h.get c/\h3.get c=h.get c)/\h.next<=h3.next:=by
 have g0:((h.alloc (.cells (yt w))).alloc (.cells (encI x))).get h.next=some (.cells (yt w)):=by
  rw [Heap.aW,Heap.aM,if_neg (by omega)];exact aB _ _
 have g1:((h.alloc (.cells (yt w))).alloc (.cells (encI x))).get (h.next+1)=some (.cells (encI x)):=aB _ _;have gx:bC h ((h.alloc (.cells (yt w))).alloc (.cells (encI x))):=(bC.alloc _ _).trans (bC.alloc _ _);have gn:((h.alloc (.cells (yt w))).alloc (.cells (encI x))).next=h.next+2:=rfl
 generalize ((h.alloc (.cells (yt w))).alloc (.cells (encI x)))=H at g0 g1 gx gn ⊢;have tH:=t.ext gx;have cge:∀ b,cz cW=some b->k<=b/\b<h.next:=fun b hb=>⟨t.oc.ge hb,t.oc.lt hb⟩
 have lge:∀ b,cz lW=some b->k<=b/\b<h.next:=fun b hb=>⟨t.ol.ge hb,t.ol.lt hb⟩
 obtain ⟨c',h2,p1,p2,p3,p4,p5⟩:=tH.oc.append IK Px (row_one IK g0) (by omega) (bytes:=24) (by simp only [length_singleton];unfold cJ;omega);have aai:=p5 (by simp);have e1:h2.get (h.next+1)=some (.cells (encI x)):=by rw [p3 _ (by omega) (fun hb=>by have:=(cge _ hb).2;omega)];exact g1
 have ol2:Own encI 1 k h2 lW ls:=by
  have o:=tH.ol
  cases o with
  |nil=>exact .nil
  |row b l q1 q2 q3=>exact .row b _ q1 (by omega) (by rw [p3 b q2 (fun hb=>t.sep b hb rfl)];exact q3)
 obtain ⟨l',h3,r1,r2,r3,r4,r5⟩:=ol2.append mX ID (row_one mX e1) (by omega) (bytes:=8) (by simp only [length_singleton];unfold cJ;omega);have aaj:=r5 (by simp)
 have oc3:Own yt 1 k h3 c' (ws++[w]):=by
  generalize hL:ws++[w]=L at p2
  cases p2 with
  |nil=>exact .nil
  |row b l q1 q2 q3=>exact .row b _ q1 (by omega) (by rw [r3 b q2 (fun hb=>by have:=(lge _ hb).2;have:=aai b rfl;omega)];exact q3)
 refine ⟨c',l',h2,h3,p1,r1,⟨oc3,r2,fun v hv p hp=>?_,fun b hb eX=>?_⟩,fun c hc=>?_,by omega⟩
 ·obtain ⟨q1,q2,q3,q4,q5⟩:=t.ok v hv p hp;have a1:h2.get p.1=some (.cells (p.2.map iv)):=by rw [p3 _ (by omega) q4,gx.get _ q2];exact q3
  refine ⟨q1,by omega,by rw [r3 _ (by omega) q5];exact a1,fun h=>by have:=aai _ h;omega,fun h=>by have:=aaj _ h;omega⟩
 ·have:=p2.lt hb;have:=aaj b eX;omega
 ·have a1:h2.get c=h.get c:=by rw [p3 c (by omega) (fun hb=>by have:=(cge _ hb).1;omega),gx.get c (by omega)]
  exact ⟨a1,by rw [r3 c (by omega) (fun hb=>by have:=(lge _ hb).1;omega)];exact a1⟩
theorem Pz:∀ ws:List RW,ws.flatMap yt=ws.map RW.av
 |[]=>rfl
 |w :: ws=>by rw [flatMap_cons,map_cons,Pz ws];rfl
theorem PA:∀ ws:List RW,(ws.map fun w=>(w.map (·.2):Sl Int)).flatMap cZ=ws.map fun w=>an encI 1 (w.map (·.2))
 |[]=>rfl
 |w :: ws=>by rw [map_cons,flatMap_cons,map_cons,PA ws];rfl
theorem Hl.yJ{ws:List RW}{ls:List Int}{held:List RW}(t:Hl k h cW lW ws ls held)(hs:∀ w ∈ ws,w ∈ held):∃ x:Sl (Sl Int),x.l.map Sl.l=ws.map RW.l/\Fz true h cW (an cZ 1 x):=by
 have nh:∀ w ∈ held,Fz true h w.av (an encI 1 (w.map (·.2))):=fun w hw=>by
  cases w with
  |none=>exact .dR rfl
  |some p=>exact ym (t.ok _ hw p rfl).2.2.1
 obtain ⟨o,_,_,_⟩:=t
 cases o with
 |nil=>exact ⟨none,rfl,.dR rfl⟩
 |row b ws h1 h2 h3=>
  refine ⟨some (ws.map fun w=>(w.map (·.2):Sl Int)),?_,?_⟩
  ·simp only [Sl.Kn,List.map_map];refine map_congr_left fun w _=>?_;cases w<;>rfl
  ·have e1:=Pz ws;have e2:=PA ws;rw [e1] at h3
   have hf:Fz true h (.slice b 0 ws.length 1) (.ax (ws.map fun w=>an encI 1 (w.map (·.2))) 0 ws.length 1):=by
    refine .slice b 0 ws.length 1 _ _ h3 (by simp) fun i x y hx hy=>?_;rw [getElem?_map] at hx hy;obtain ⟨w,hw,rfl⟩:=map_eq_some_iff.1 hx;rw [hw] at hy;cases hy;exact nh w (hs w (iq hw))
   have:an cZ 1 (some (ws.map fun w=>(w.map (·.2):Sl Int))) = .ax (ws.map fun w=>an encI 1 (w.map (·.2))) 0 ws.length 1:=by
    simp only [an,e2,length_map]
   rw [this];exact hf
def l7(xs:List cc):Bool:=xs.all ej&&decide (xs.length<=12)
theorem dP{x:Sl cc}(hx:x.l.length<=cM){h:Heap}{K:Out->Heap->Bool}(hK:K (.ret (.bool (l7 x.l))) h=true):Sem TP 154 [an encS 1 x] h K:=by
 refine F.AO ?_;rw [F.Cy];refine aE 0 x.l.length (zero_le _) (fun i e h'=>h'=h/\e 0=an encS 1 x/\e 3 = .int .i64 (i:Int)/\(x.l.take i).all ej=true) ⟨rfl,rfl,rfl,rfl⟩ ?_ ?_
 ·rintro i e h' _ hi ⟨rfl,e0,e3,ht⟩ K' hn gm hr B2;have hv:x.l[i]?=some x.l[i]:=ew hi;generalize x.l[i]=s at hv;rw [F.dP.aU];simp only [e0,e3,aS,reduceAdd,reduceEqDiff,reduceIte,bp hi,aV x hi,jr hv];refine ai (ep ?_);simp only [aS,reduceAdd,reduceEqDiff,reduceIte]
  cases hq:ej s with
  |false=>
   simp only [Bool.not_false,aL];rw [hr,F.dP.bz];have:l7 x.l=false:=by unfold l7;rw [all_false hv hq,Bool.false_and]
   rw [this] at hK;exact hK
  |true=>
   simp only [Bool.not_true,aK,aJ hi hx,aq];exact hn _ _ ⟨rfl,e0,rfl,jq hv ht hq⟩
 ·rintro e h' ⟨rfl,e0,e3,ht⟩ K' gm;rw [F.dP.aU];simp only [e0,e3,aS,reduceAdd,reduceEqDiff,reduceIte,aX];rw [gm,F.dP.aG];simp only [e0,aS,reduceAdd,reduceEqDiff,reduceIte];rw [jW (dN _)] at ht;have:l7 x.l=decide ((x.l.length:Int)<=12):=by unfold l7;rw [ht,Bool.true_and];by_cases h:x.l.length<=12<;>simp<;>omega
  rw [this] at hK;exact hK
def tI(r:aP):List cc:=r.args.l++r.body.l.flatMap fun c=>c.args.l
theorem vQ(o a b:List cc):eM o (a++b)=eM (eM o a) b:=by unfold eM;rw [foldl_append]
theorem vR:∀ (cs:List eP) (o:List cc),jU o cs=eM o (cs.flatMap fun c=>c.args.l)
 |[],o=>rfl
 |c :: cs,o=>by
  rw [flatMap_cons,vQ];exact vR cs (eM o c.args.l)
theorem Dc(r:aP):varsOf r=eM [] (tI r):=by
 unfold varsOf tI;rw [vQ,vR]
theorem IL{r:aP}(hf:r.mj)(i:Nat):(r.args.l++(r.body.l.take i).flatMap fun c=>c.args.l).length<=3000000:=by
 have:∀ (cs:List eP),(∀ c ∈ cs,c.args.l.length<=1500)->(cs.flatMap fun c=>c.args.l).length<=cs.length*1500:=by
  intro cs
  induction cs with
  |nil=>intro _;simp
  |cons c cs ih=>
   intro h;have h1:=ih fun d hd=>h d (mem_cons_of_mem _ hd);have h2:=h c mem_cons_self;rw [flatMap_cons,length_append,length_cons];omega
 have h1:=this (r.body.l.take i) fun c hc=>hf.2.2 c (mem_of_mem_take hc);have h2:=length_take_le i r.body.l;have h4:=length_take_le' i r.body.l;have:=hf.1;have:=hf.2.1;rw [length_append];omega
theorem bN{r:aP}(hf:r.mj){h:Heap}{K:Out->Heap->Bool}(hK:∀ x:Sl cc,x.l=varsOf r->K (.ret (an encS 1 x)) h=true) :
  Sem TP 43 [.agg [.str r.name,an encS 1 r.args,an bM 4 r.body]] h K:=by
 have An:r.body.l.length<=cM:=by have:=hf.2.1;unfold cM;omega
 have main:Sem TP 43 [.agg [.str r.name,an encS 1 r.args,an bM 4 r.body]] Heap.empty (fun o h'=>yes (∃ v,∃ x:Sl cc,o = .ret v/\x.l=varsOf r/\Fz true h' v (an encS 1 x))):=by
  refine F.va ?_;rw [F.wC];have hb:eY (.agg [.str r.name,an encS 1 r.args,an bM 4 r.body])=some (aQ r):=c8 (kf r);have nh:fZ [] [] []=some []:=rfl;simp only [hb,nh,aq,bU,Heap.aM];have g0:(Heap.alloc (Heap.alloc Heap.empty (.cells (aQ r))) (.cells [])).get 0=some (.cells (aQ r)):=by simp [Heap.aW,bU]
  have g1:(Heap.alloc (Heap.alloc Heap.empty (.cells (aQ r))) (.cells [])).get 1=some (.cells (([]:List cc).flatMap encS)):=by simp [Heap.aW,bU]
  have gn:(Heap.alloc (Heap.alloc Heap.empty (.cells (aQ r))) (.cells [])).next=2:=rfl
  generalize (Heap.alloc (Heap.alloc Heap.empty (.cells (aQ r))) (.cells []))=H at g0 g1 gn ⊢;have o0:Own encS 1 1 H (.slice (0+1) 0 0 1) []:=.row 1 [] (dN _) (by omega) g1;obtain ⟨a1,h1,p1,p2,p3,p4,p5⟩:=o0.append iC oG (uG iC r.args H) (by omega) (bytes:=16) (by have:=hf.1;unfold cJ;simp only [length_nil];omega);have S9:h1.get 0=some (.cells (aQ r)):=by rw [p3 0 (by omega) (fun hb=>by simp [cz] at hb)];exact g0
  simp only [aS,reduceAdd,reduceEqDiff,reduceIte,ak g0,aQ];simp only [p1,aS,reduceAdd,reduceEqDiff,reduceIte]
  refine aE 0 r.body.l.length (zero_le _) (fun i e h'=>∃ a,h'.get 0=some (.cells (aQ r))/\2<=h'.next/\Own encS 1 1 h' a (r.args.l++(r.body.l.take i).flatMap fun c=>c.args.l)/\e 1 = .ptr 0 0/\e 3=a/\e 4 = .int .i64 (i:Int))
   ⟨a1,S9,by omega,by simpa using p2,rfl,rfl,rfl⟩ ?_ ?_
  ·rintro i e h' _ hi ⟨a,q0,qn,o,e1,e3,e4⟩ K' hn hx hr hp;have hv:r.body.l[i]?=some r.body.l[i]:=ew hi;generalize r.body.l[i]=c at hv;have hc:=hf.2.2 c (iq hv);obtain ⟨a2,h2,s1,s2,s3,s4,s5⟩:=o.append iC oG (uG iC c.args h') (by omega) (bytes:=16) (by have:=IL hf i;unfold cJ;omega);have ld:∀ j,j<4->∀ h,ah none (.dQ (r.body.l.flatMap bM) (i*4+j)) h=(bM c)[j]?:=fun j hj h=>fH iy hv hj;rw [F.bN.aU];simp only [e1,e3,e4,aS,reduceAdd,reduceEqDiff,reduceIte,ak q0,aQ,bp hi,aV r.body hi];simp only [aS,reduceAdd,reduceEqDiff,reduceIte,Nat.add_assoc,reduceAdd,ld 3 (by omega),bM,s1,aJ hi An];refine hn _ _ ⟨a2,?_,by omega,?_,e1,rfl,rfl⟩
   ·rw [s3 0 (by omega) (fun hb=>by have:=o.ge hb;omega)];exact q0
   ·rw [take_add_one,hv,flatMap_append,<- append_assoc];simpa using s2
  ·rintro e h' ⟨a,q0,qn,o,e1,e3,e4⟩ K' hx;rw [jW (dN _)] at o;have hal:(tI r).length<=3000000:=by have:=IL hf r.body.l.length;rw [jW (dN _)] at this;exact this
   have rj:(tI r).length<=cM:=by unfold cM;omega
   have o':Own encS 1 1 h' a (tI r):=o;rw [F.bN.aU];simp only [e1,e4,aS,reduceAdd,reduceEqDiff,reduceIte,ak q0,aQ,aX];rw [hx,F.bN.aG]
   refine aE 0 (tI r).length (zero_le _) (fun i e h2=>∃ b,bC h' h2/\Own encS 1 h'.next h2 b (eM [] ((tI r).take i))/\e 3=a/\e 5=b/\e 6 = .int .i64 (i:Int))
    ⟨.ay,bC.refl _,by simpa [eM] using Own.nil,by simp only [bP,reduceEqDiff,reduceIte,e3],rfl,rfl⟩ ?_ ?_
   ·rintro i e h2 _ hi ⟨b,x2,ob,e3,e5,e6⟩ K2 hn fY hr hp;have hv:(tI r)[i]?=some (tI r)[i]:=ew hi;generalize (tI r)[i]=s at hv;have oa:=o'.ext x2;obtain ⟨q,_,g1,g2⟩:=tu oa hv
    have hlb:(eM [] ((tI r).take i)).length<=3000000:=by
     have h1:=oJ ((tI r).take i) [];have h2:=length_take_le' i (tI r);simp only [length_nil] at h1;omega
    have aak:((eM [] ((tI r).take i)).any fun x=>x==s)=(eM [] ((tI r).take i)).any fun x=>s==x:=by
     congr 1;funext x;exact Bool.eq_iff_iff.2 ⟨fun h=>by rw [beq_iff_eq] at h ⊢;exact h.symm,fun h=>by rw [beq_iff_eq] at h ⊢;exact h.symm⟩
    have kj:=Ah (o:=[]) hv;unfold C0 at kj;rw [F.bN.dm];simp only [e3,e5,e6,oa.len,aS,reduceAdd,reduceEqDiff,reduceIte,bp hi,g1,g2];refine ai (dA ob (by unfold cM;omega) ?_);rw [aak];simp only [aS,reduceAdd,reduceEqDiff,reduceIte]
    cases hq:(eM [] ((tI r).take i)).any fun x=>s==x with
    |true=>
     rw [hq,if_pos rfl] at kj;simp only [Bool.not_true,aK,aJ hi rj,aq];exact hn _ _ ⟨b,x2,by rw [kj];exact ob,e3,e5,rfl⟩
    |false=>
     rw [hq,if_neg (by simp)] at kj;obtain ⟨b2,h3,p1,p2,p3,p4,p5,p6⟩:=ob.push iC oG x2.next (bytes:=16) (by unfold cJ;omega) s
     simp only [Bool.not_false,aL,e3,e5,e6,g1,g2,aS,reduceAdd,reduceEqDiff,reduceIte,Ux,p1,aJ hi rj];exact hn _ _ ⟨b2,p5 h' x2 (dN _),by rw [kj];exact p2,e3,rfl,rfl⟩
   ·rintro e h2 ⟨b,x2,ob,e3,e5,e6⟩ K2 fY;have oa:=o'.ext x2;rw [F.bN.dm];simp only [e3,e6,oa.len,aS,reduceAdd,reduceEqDiff,reduceIte,aX];rw [fY,F.bN.cx];rw [jW (dN _),<- Dc] at ob;simp only [bP,reduceEqDiff,reduceIte,e5]
    obtain ⟨x,jI,fY⟩:=ob.Ky (fun v y hy=>by
     simp only [encS,mem_cons,not_mem_nil,_root_.or_false] at hy
     subst hy;exact .scalar _ rfl)
    exact cw.2 ⟨b,x,rfl,jI,fY⟩
 refine main.frozen (by have:=fN r;simpa [aQ,AV.cO,AV.pure] using this) fun o h' ho=>?_;obtain ⟨v,x,rfl,hx,hfz⟩:=cw.1 ho;exact ⟨v,_,rfl,hfz,hK x hx⟩
def Mg(a b:Int):Int:=if b>a then b else a
theorem IM(a b:Int):vB true (.int .i64 a) [.int .i64 b]=some (.int .i64 (Mg a b)):=by simp [vB,JS,Mg]
def iG(ps:List Nat):Int:=ps.foldl (fun a (p:Nat)=>Mg a (p:Int)) (-1)
theorem PC{t:cc}:s ∈ C0 o t↔s ∈ o\/s=t:=by
 unfold C0;split
 ·rename_i h;obtain ⟨x,hx,hq⟩:=List.any_eq_true.1 h;rw [beq_iff_eq] at hq;exact ⟨.inl,fun h=>h.elim id fun e=>by rw [e,hq];exact hx⟩
 ·simp
theorem Dd{s:cc}:∀ {l o:List cc},s ∈ eM o l↔s ∈ o\/s ∈ l
 |[],o=>by simp [eM]
 |t :: l,o=>by
  show s ∈ eM (C0 o t) l↔_;rw [Dd,PC,mem_cons,_root_.or_assoc]
theorem IN{r:aP}:s ∈ varsOf r↔s ∈ tI r:=by rw [Dc,Dd];simp
theorem uH{r:aP}:∀ s ∈ r.args.l,s ∈ varsOf r:=fun s hs=>IN.2 (mem_append_left _ hs)
theorem zw{r:aP}{c:eP}(hc:c ∈ r.body.l):∀ s ∈ c.args.l,s ∈ varsOf r:=fun s hs=>IN.2 (mem_append_right _ (mem_flatMap.2 ⟨c,hc,hs⟩))
def jg(vars xs:List cc):List Int:=(placesOf vars xs).map fun (p:Nat)=>(p:Int)
theorem PD(i n:Int)(nm:cc)(xs:Sl cc)(ys:Sl eP)(w:RW):iA [.int .i64 0,.str [],.ay,.ay,.int .i64 0,.ay,.ay,.ay] [(0,1),(1,3),(4,1),(5,1)] [.int .i64 i,.agg [.str nm,an encS 1 xs,an bM 4 ys],.int .i64 n,w.av]=some (.agg [.int .i64 i,.str nm,an encS 1 xs,an bM 4 ys,.int .i64 n,w.av,.ay,.ay]):=by
 cases xs<;>cases ys<;>cases w<;>rfl
theorem PE(s:St):dz TP s Tryz.f102.results.toList=(match ah (some 8) (s.env 4) s.h,(some []:Option (List AV)) with|some v,some vs=>some (v :: vs)|_,_=>none):=by kernel_rfl
theorem Mh(a b c d e f g i:AV):ji (some 8) [a,b,c,d,e,f,g,i] 0=some (.agg [a,b,c,d,e,f,g,i]):=rfl
def bS(i:Int)(r:aP)(n:Int)(hd c l:AV):List AV:=[.int .i64 i,.str r.name,an encS 1 r.args,an bM 4 r.body,.int .i64 n,hd,c,l]
theorem IP(i:Int)(r:aP)(n:Int)(w:RW){c l:AV}(hc:bw [c]=true)(hl:bw [l]=true):bw (bS i r n w.av c l)=true:=by
 have hw:w.av.one=true:=by cases w<;>rfl
 unfold bS;simp only [bw,Bool.and_true] at hc hl ⊢;simp only [fT,hw,hc,hl,Bool.and_true];rfl
theorem PF{P:Nat}{cs vs:List AV}(hP:h.get P=some (.cells cs))(hc:cs.length=8)(hv:vs.length=8)(h1:bw vs=true):aZ 8 (.ptr P 0) (.agg vs) h=some (h.set P (.cells vs)):=by
 rw [cB hP (by exact hv) (by exact h1) (by omega)];congr 1
 match cs,hc,vs,hv with
 |[a,b,c,d,e,f,g,i],_,[a',b',c',d',e',f',g',i'],_=>rfl
set_option maxHeartbeats 2000000 in
theorem cG{i0:Int}{r:aP}(hf:r.mj){h:Heap}{K:Out->Heap->Bool}
  (hK:∀ (hd:Sl Int) (cs:Sl (Sl Int)) (ls:Sl Int),hd.l=jg (varsOf r) r.args.l->cs.l.map Sl.l=r.body.l.map (fun c=>jg (varsOf r) c.args.l)->ls.l=r.body.l.map (fun c=>iG (placesOf (varsOf r) c.args.l)) ->
   K (.ret (.agg (bS i0 r (varsOf r).length (an encI 1 hd) (an cZ 1 cs) (an encI 1 ls)))) h=true) :
  Sem TP 102 [.int .i64 i0,.agg [.str r.name,an encS 1 r.args,an bM 4 r.body]] h K:=by
 have An:r.body.l.length<=cM:=by have:=hf.2.1;unfold cM;omega
 have DS:(varsOf r).length<=3000000:=by have:=IB hf r.body.l.length;rw [jW (dN _)] at this;exact this
 have gen:∀ R:Out->Heap->Bool,(∀ (h':Heap) (nu:RW) (cW lW:AV) (cs:Sl (Sl Int)) (ls:Sl Int),Fz true h' nu.av (an encI 1 (nu.map (·.2)))->nu.l=jg (varsOf r) r.args.l->Fz true h' cW (an cZ 1 cs)->Fz true h' lW (an encI 1 ls) ->
   cs.l.map Sl.l=r.body.l.map (fun c=>jg (varsOf r) c.args.l)->ls.l=r.body.l.map (fun c=>iG (placesOf (varsOf r) c.args.l))->R (.ret (.agg (bS i0 r (varsOf r).length nu.av cW lW))) h'=true) ->
   Sem TP 102 [.int .i64 i0,.agg [.str r.name,an encS 1 r.args,an bM 4 r.body]] Heap.empty R:=by
  intro R fin;refine F.zf ?_;rw [F.AS];have hb:eY (.agg [.str r.name,an encS 1 r.args,an bM 4 r.body])=some (aQ r):=c8 (kf r);simp only [hb,aq,bU,Heap.aM];have g0:(Heap.alloc (Heap.alloc Heap.empty (.cells (aQ r))) (.cells [.int .i64 0,.str [],.ay,.ay,.int .i64 0,.ay,.ay,.ay])).get 0=some (.cells (aQ r)):=by simp [Heap.aW,bU]
  have g1:(Heap.alloc (Heap.alloc Heap.empty (.cells (aQ r))) (.cells [.int .i64 0,.str [],.ay,.ay,.int .i64 0,.ay,.ay,.ay])).get 1=some (.cells [.int .i64 0,.str [],.ay,.ay,.int .i64 0,.ay,.ay,.ay]):=by simp [Heap.aW,bU]
  have gn:(Heap.alloc (Heap.alloc Heap.empty (.cells (aQ r))) (.cells [.int .i64 0,.str [],.ay,.ay,.int .i64 0,.ay,.ay,.ay])).next=2:=rfl
  generalize (Heap.alloc (Heap.alloc Heap.empty (.cells (aQ r))) (.cells [.int .i64 0,.str [],.ay,.ay,.int .i64 0,.ay,.ay,.ay]))=H at g0 g1 gn ⊢;simp only [ak g0,aQ,rC,aq];refine ai (dr hf fun x jI=>?_);have Mf:x.l.length<=cM:=by rw [jI];unfold cM;omega
  obtain ⟨H3,LL,k2,ko,kn⟩:=mM (h:=H) (z:=.ay) (v:=an encS 1 x) (by cases x<;>rfl) (by simp only [bw,fT];rfl);have q0:H3.get 0=some (.cells (aQ r)):=by rw [ko 0 (by omega)];exact g0
  have q1:H3.get 1=some (.cells [.int .i64 0,.str [],.ay,.ay,.int .i64 0,.ay,.ay,.ay]):=by rw [ko 1 (by omega)];exact g1
  rw [gn] at LL k2;simp only [aS,reduceAdd,reduceEqDiff,reduceIte,gn,LL];simp only [aS,reduceAdd,reduceEqDiff,reduceIte,ak q0,ak k2,aQ,rC,show H3.next=3 by omega];have gx:=bC.alloc H3 (.cells [.int .i64 0,.str [],.ay,.ay,.int .i64 0,.ay,.ay,.ay])
  have g3:(H3.alloc (.cells [.int .i64 0,.str [],.ay,.ay,.int .i64 0,.ay,.ay,.ay])).get 3=some (.cells [.int .i64 0,.str [],.ay,.ay,.int .i64 0,.ay,.ay,.ay]):=by
   have:=aB H3 (.cells [.int .i64 0,.str [],.ay,.ay,.int .i64 0,.ay,.ay,.ay]);rw [show H3.next=3 by omega] at this;exact this
  have gn3:(H3.alloc (.cells [.int .i64 0,.str [],.ay,.ay,.int .i64 0,.ay,.ay,.ay])).next=4:=by rw [Heap.aM];omega
  generalize (H3.alloc (.cells [.int .i64 0,.str [],.ay,.ay,.int .i64 0,.ay,.ay,.ay]))=H4 at gx g3 gn3 ⊢;have p0:H4.get 0=some (.cells (aQ r)):=by rw [gx.get 0 (by omega)];exact q0
  have p1:H4.get 1=some (.cells [.int .i64 0,.str [],.ay,.ay,.int .i64 0,.ay,.ay,.ay]):=by rw [gx.get 1 (by omega)];exact q1
  have p2:H4.get 2=some (.cells [an encS 1 x]):=by rw [gx.get 2 (by omega)];exact k2
  refine ai (IJ p2 (by omega) (fun s hs=>by rw [jI];exact uH s hs) (by have:=hf.1;omega) Mf fun a h5 oa x5=>?_);rw [gn3] at oa;obtain ⟨nu,rfl,hdl,hdk⟩:=Py oa;have r0:h5.get 0=some (.cells (aQ r)):=by rw [x5.get 0 (by omega)];exact p0
  have r1:h5.get 1=some (.cells [.int .i64 0,.str [],.ay,.ay,.int .i64 0,.ay,.ay,.ay]):=by rw [x5.get 1 (by omega)];exact p1
  have r2:h5.get 2=some (.cells [an encS 1 x]):=by rw [x5.get 2 (by omega)];exact p2
  have r3:h5.get 3=some (.cells [.int .i64 0,.str [],.ay,.ay,.int .i64 0,.ay,.ay,.ay]):=by rw [x5.get 3 (by omega)];exact g3
  have rn:=x5.next
  have iM:=PF (vs:=bS i0 r (varsOf r).length nu.av .ay .ay) r3 rfl rfl (IP _ _ _ _ rfl rfl);have xh:=PD i0 (varsOf r).length r.name r.args r.body nu;rw [<- jI] at iM xh;simp only [aS,reduceAdd,reduceEqDiff,reduceIte,ak r0,ak r2,aQ,rC,AV.beq_refl,Bool.and_self,Bool.and_true,if_true,xh];simp only [bS] at iM;simp only [iM,aS,reduceAdd,reduceEqDiff,reduceIte]
  have t0:Hl 4 (h5.set 3 (.cells (bS i0 r x.l.length nu.av .ay .ay))) .ay .ay [] [] [nu]:=
   (Hl.low ⟨.nil,.nil,fun w hw p hp=>by
    rw [mem_singleton] at hw;subst hw;obtain ⟨a1,a2,a3⟩:=hdk p hp
    exact ⟨a1,a2,a3,by simp [cz],by simp [cz]⟩,fun b hb=>by simp [cz] at hb⟩ (by omega) _)
  have s0:(h5.set 3 (.cells (bS i0 r x.l.length nu.av .ay .ay))).get 0=some (.cells (aQ r)):=by rw [Heap.aN,if_neg (by omega)];exact r0
  have s1:(h5.set 3 (.cells (bS i0 r x.l.length nu.av .ay .ay))).get 1=some (.cells [.int .i64 0,.str [],.ay,.ay,.int .i64 0,.ay,.ay,.ay]):=by rw [Heap.aN,if_neg (by omega)];exact r1
  have s2:(h5.set 3 (.cells (bS i0 r x.l.length nu.av .ay .ay))).get 2=some (.cells [an encS 1 x]):=by rw [Heap.aN,if_neg (by omega)];exact r2
  have s3:(h5.set 3 (.cells (bS i0 r x.l.length nu.av .ay .ay))).get 3=some (.cells (bS i0 r x.l.length nu.av .ay .ay)):=by rw [Heap.aN,if_pos rfl]
  have sn:(h5.set 3 (.cells (bS i0 r x.l.length nu.av .ay .ay))).next=h5.next:=Heap.br _ _ _
  simp only [bS] at t0 s0 s1 s2 s3 sn;generalize (h5.set 3 (.cells [.int .i64 i0,.str r.name,an encS 1 r.args,an bM 4 r.body,.int .i64 (x.l.length:Int),nu.av,.ay,.ay]))=H6 at t0 s0 s1 s2 s3 sn ⊢;simp only [ak s0,aQ,aS,reduceAdd,reduceEqDiff,reduceIte]
  refine aE 0 r.body.l.length (zero_le _) (fun i e h'=>∃ cW lW ws ls,Hl 4 h' cW lW ws ls (nu :: ws)/\ws.map RW.l=(r.body.l.take i).map (fun c=>jg (varsOf r) c.args.l)/\ls=(r.body.l.take i).map (fun c=>iG (placesOf (varsOf r) c.args.l)) /\
   h'.get 1=some (.cells [.int .i64 0,.str [],.ay,.ay,.int .i64 0,.ay,.ay,.ay])/\h'.get 2=some (.cells [an encS 1 x])/\h'.get 3=some (.cells [.int .i64 i0,.str r.name,an encS 1 r.args,an bM 4 r.body,.int .i64 (x.l.length:Int),nu.av,cW,lW])/\4<=h'.next /\
   e 4 = .ptr 1 0/\e 6 = .func 144 [] [.ptr 2 0]/\e 7 = .ptr 3 0/\e 28=an bM 4 r.body/\e 29 = .int .i64 (r.body.l.length:Int)/\e 30 = .int .i64 (i:Int))
   ⟨.ay,.ay,[],[],t0,rfl,rfl,s1,s2,s3,by omega,rfl,rfl,rfl,rfl,rfl,rfl⟩ ?_ ?_
  ·rintro i e h' _ hi ⟨cW,lW,ws,ls,tw,hws,KG,u1,u2,u3,un,e4,e6,e7,VT,UA,UB⟩ K' hn hx hr hp;have hv:r.body.l[i]?=some r.body.l[i]:=ew hi;generalize r.body.l[i]=c at hv;have GU:=iq hv;have adh:=hf.2.2 c GU;obtain ⟨H2,qJ,c1,co,cn⟩:=cF (h:=h') (zs:=[.int .i64 0,.bool false,.str [],.ay]) (cs:=bM c) (n:=4) rfl rfl (iz c);have x2:bC h' H2:=⟨by omega,fun b hb=>co b (by omega)⟩
   rw [F.cG.aU];simp only [e6,VT,UA,UB,aS,reduceAdd,reduceEqDiff,reduceIte,bp hi,aV r.body hi,dx iy hv,qJ];simp only [aS,reduceAdd,reduceEqDiff,reduceIte,ak c1,bM,fA,nil_append,cons_append];refine ai (IJ (xs:=c.args) (by rw [x2.get 2 (by omega)];exact u2) (by omega) (fun s hs=>by rw [jI];exact zw GU s hs) (by omega) Mf fun a h3 oa x3=>?_);rw [jI] at oa;obtain ⟨w,rfl,hwl,hwk⟩:=Py oa;have PG:=x2.trans x3;have tw3:=tw.ext PG;have v1:h3.get 1=some (.cells [.int .i64 0,.str [],.ay,.ay,.int .i64 0,.ay,.ay,.ay]):=by rw [PG.get 1 (by omega)];exact u1
   have v2:h3.get 2=some (.cells [an encS 1 x]):=by rw [PG.get 2 (by omega)];exact u2
   have v3:h3.get 3=some (.cells [.int .i64 i0,.str r.name,an encS 1 r.args,an bM 4 r.body,.int .i64 (x.l.length:Int),nu.av,cW,lW]):=by rw [PG.get 3 (by omega)];exact u3
   have vn:=PG.next
   have twh:Hl 4 h3 cW lW ws ls (nu :: ws++[w]):=tw3.hold (j:=H2.next) (fun p hp=>by
    obtain ⟨a1,a2,a3⟩:=hwk p hp
    exact ⟨a1,by omega,a2,a3⟩) (fun b hb=>by have:=tw.oc.lt hb;omega) (fun b hb=>by have:=tw.ol.lt hb;omega)
   have sE:(placesOf (varsOf r) c.args.l).length<=cM:=by unfold placesOf cM;rw [length_map];omega
   have hlen:∀ h,bX .slice w.av h=some (.int .i64 ((placesOf (varsOf r) c.args.l).length:Int)):=fun h=>by rw [oa.len];simp
   simp only [aS,reduceAdd,reduceEqDiff,reduceIte,hlen]
   refine aE 0 (placesOf (varsOf r) c.args.l).length (zero_le _) (fun j e h2=>h2=h3/\e 4 = .ptr 1 0/\e 6 = .func 144 [] [.ptr 2 0]/\e 7 = .ptr 3 0/\e 28=an bM 4 r.body/\e 29 = .int .i64 (r.body.l.length:Int)/\e 30 = .int .i64 (i:Int) /\
    e 10=w.av/\e 11 = .int .i64 (iG ((placesOf (varsOf r) c.args.l).take j))/\e 39=w.av/\e 40 = .int .i64 ((placesOf (varsOf r) c.args.l).length:Int)/\e 41 = .int .i64 (j:Int)) ⟨rfl,e4,e6,e7,VT,UA,UB,rfl,rfl,rfl,rfl,rfl⟩ ?_ ?_
   ·rintro j e h2 _ hj ⟨rfl,e4,e6,e7,VT,UA,UB,jF,oX,No,Mi,e41⟩ K2 oW fY qi DT;have QS:(placesOf (varsOf r) c.args.l)[j]?=some (placesOf (varsOf r) c.args.l)[j]:=ew hj;generalize (placesOf (varsOf r) c.args.l)[j]=p at QS;have Rx:((placesOf (varsOf r) c.args.l).map fun (p:Nat)=>(p:Int))[j]?=some (p:Int):=by rw [getElem?_map,QS];rfl
    obtain ⟨b,_,_,i1,_,i3⟩:=oa.get mX Rx;have i3':ah none (.ptr b (j*1)) h2=some (.int .i64 (p:Int)):=i3 0 (by omega);rw [F.cG.dm];simp only [oX,No,Mi,e41,aS,reduceAdd,reduceEqDiff,reduceIte,bp hj,i1,i3',IM,aJ hj sE];refine oW _ _ ⟨rfl,e4,e6,e7,VT,UA,UB,jF,?_,No,Mi,rfl⟩;have:iG ((placesOf (varsOf r) c.args.l).take (j+1))=Mg (iG ((placesOf (varsOf r) c.args.l).take j)) (p:Int):=by unfold iG;rw [take_add_one,QS];simp
    rw [this];rfl
   ·rintro e h2 ⟨rfl,e4,e6,e7,VT,UA,UB,jF,oX,No,Mi,e41⟩ K2 fY;rw [jW (dN _)] at oX;have ahQ:ws.length<=1500:=by have h1:=congrArg List.length hws;simp only [length_map] at h1;have h2:=length_take_le' i r.body.l;have:=hf.2.1;omega
    have ahR:ls.length<=1500:=(by rw [KG,length_map];have h2:=length_take_le' i r.body.l;have:=hf.2.1;omega);obtain ⟨c',l',m2,m3,t1,t2,t3,t4,t5⟩:=twh.push (by omega) (by omega) (by omega) w (iG (placesOf (varsOf r) c.args.l));have y3:m2.get 3=some (.cells [.int .i64 i0,.str r.name,an encS 1 r.args,an bM 4 r.body,.int .i64 (x.l.length:Int),nu.av,cW,lW]):=by rw [(t4 3 (by omega)).1];exact v3
    have z3:m3.get 3=some (.cells [.int .i64 i0,.str r.name,an encS 1 r.args,an bM 4 r.body,.int .i64 (x.l.length:Int),nu.av,cW,lW]):=(by rw [(t4 3 (by omega)).2];exact v3);obtain ⟨w1,w2⟩:=tE t3.oc;obtain ⟨w3,w4⟩:=tE t3.ol
    have Tc:aZ 1 (.ptr 3 6) c' m3=some (m3.set 3 (.cells [.int .i64 i0,.str r.name,an encS 1 r.args,an bM 4 r.body,.int .i64 (x.l.length:Int),nu.av,c',lW])):=by
     rw [cB (n:=1) z3 (by rw [w1];rfl) (by rw [w1];exact w2) (by simp),w1];rfl
    have z4:(m3.set 3 (.cells [.int .i64 i0,.str r.name,an encS 1 r.args,an bM 4 r.body,.int .i64 (x.l.length:Int),nu.av,c',lW])).get 3=some (.cells [.int .i64 i0,.str r.name,an encS 1 r.args,an bM 4 r.body,.int .i64 (x.l.length:Int),nu.av,c',lW]):=by rw [Heap.aN,if_pos rfl]
    have PI:aZ 1 (.ptr 3 7) l' (m3.set 3 (.cells [.int .i64 i0,.str r.name,an encS 1 r.args,an bM 4 r.body,.int .i64 (x.l.length:Int),nu.av,c',lW]))=some ((m3.set 3 (.cells [.int .i64 i0,.str r.name,an encS 1 r.args,an bM 4 r.body,.int .i64 (x.l.length:Int),nu.av,c',lW])).set 3 (.cells [.int .i64 i0,.str r.name,an encS 1 r.args,an bM 4 r.body,.int .i64 (x.l.length:Int),nu.av,c',l'])):=by
     rw [cB (n:=1) z4 (by rw [w3];rfl) (by rw [w3];exact w4) (by simp),w3];rfl
    rw [F.cG.dm];simp only [Mi,e41,aS,reduceAdd,reduceEqDiff,reduceIte,aX];rw [fY,F.cG.cx];simp only [e7,jF,oX,UB,aS,reduceAdd,reduceEqDiff,reduceIte,ak v3,aah,Pr,Heap.aM];rw [ak (r:=none) (o:=7) (h:=(Heap.alloc h2 (.cells (yt w)))) (cs:=[.int .i64 i0,.str r.name,an encS 1 r.args,an bM 4 r.body,.int .i64 (x.l.length:Int),nu.av,cW,lW]) (by rw [Heap.aW,if_neg (by omega)];exact v3)];simp only [aS,reduceAdd,reduceEqDiff,reduceIte,Pr,Heap.aM,t1,ak y3,AV.beq_refl,Bool.and_self,if_true,t2,Tc,PI,aJ hi An];refine hn _ _ ⟨c',l',ws++[w],ls++[iG (placesOf (varsOf r) c.args.l)],(t3.low (by omega) _).low (by omega) _,?_,?_,?_,?_,by rw [Heap.aN,if_pos rfl],by rw [Heap.br,Heap.br];omega,e4,e6,e7,VT,UA,rfl⟩
    ·rw [map_append,hws,take_add_one,hv,map_append];simp only [map_cons,map_nil,toList_some];rw [hwl];rfl
    ·rw [KG,take_add_one,hv,map_append];rfl
    ·rw [Heap.aN,if_neg (by omega),Heap.aN,if_neg (by omega),(t4 1 (by omega)).2];exact v1
    ·rw [Heap.aN,if_neg (by omega),Heap.aN,if_neg (by omega),(t4 2 (by omega)).2];exact v2
  ·rintro e h' ⟨cW,lW,ws,ls,tw,hws,KG,u1,u2,u3,un,e4,e6,e7,VT,UA,UB⟩ K' hx;rw [jW (dN _)] at hws KG;obtain ⟨_,w2⟩:=tE tw.oc;obtain ⟨_,w4⟩:=tE tw.ol;have aam:=PF (vs:=bS i0 r x.l.length nu.av cW lW) u1 rfl rfl (IP _ _ _ _ w2 w4);simp only [bS] at aam;rw [F.cG.aU];simp only [UA,UB,aS,reduceAdd,reduceEqDiff,reduceIte,aX];rw [hx,F.cG.aG];simp only [e4,e7,aS,reduceAdd,reduceEqDiff,reduceIte,ak u3,Mh,aam,PE];have tf:=tw.low (by omega:1<4) (.cells [.int .i64 i0,.str r.name,an encS 1 r.args,an bM 4 r.body,.int .i64 (x.l.length:Int),nu.av,cW,lW]);have gf:(h'.set 1 (.cells [.int .i64 i0,.str r.name,an encS 1 r.args,an bM 4 r.body,.int .i64 (x.l.length:Int),nu.av,cW,lW])).get 1=some (.cells [.int .i64 i0,.str r.name,an encS 1 r.args,an bM 4 r.body,.int .i64 (x.l.length:Int),nu.av,cW,lW]):=by rw [Heap.aN,if_pos rfl]
   simp only [bP,reduceEqDiff,reduceIte,e4,ak gf,Mh,aq,oneOf];obtain ⟨cs,WS,cs2⟩:=tf.yJ (fun w hw=>mem_cons_of_mem _ hw)
   obtain ⟨lx,lx1,lx2⟩:=tf.ol.Ky (fun v y hy=>by
    simp only [encI,mem_cons,not_mem_nil,_root_.or_false] at hy
    subst hy;exact .scalar _ rfl)
   have hfz:Fz true (h'.set 1 (.cells [.int .i64 i0,.str r.name,an encS 1 r.args,an bM 4 r.body,.int .i64 (x.l.length:Int),nu.av,cW,lW])) nu.av (an encI 1 (nu.map (·.2))):=by
    cases nu with
    |none=>exact .dR rfl
    |some p=>exact ym (tf.ok _ mem_cons_self p rfl).2.2.1
   have:=fin _ nu cW lW cs lx hfz (by rw [<- jI];exact hdl) cs2 lx2 (by rw [WS,hws]) (by rw [lx1,KG]);rw [<- jI] at this;exact this
 have main:=gen (fun o h'=>yes (∃ (nu:RW) (cW lW:AV) (cs:Sl (Sl Int)) (ls:Sl Int),o = .ret (.agg (bS i0 r (varsOf r).length nu.av cW lW))/\Fz true h' nu.av (an encI 1 (nu.map (·.2)))/\nu.l=jg (varsOf r) r.args.l/\Fz true h' cW (an cZ 1 cs)/\Fz true h' lW (an encI 1 ls) /\
   cs.l.map Sl.l=r.body.l.map (fun c=>jg (varsOf r) c.args.l)/\ls.l=r.body.l.map (fun c=>iG (placesOf (varsOf r) c.args.l)))) (fun h' nu cW lW cs ls f1 f2 f3 f4 f5 f6=>cw.2 ⟨nu,cW,lW,cs,ls,rfl,f1,f2,f3,f4,f5,f6⟩)
 refine main.frozen (by have:=fN r;simpa [aQ,AV.cO,AV.pure] using this) fun o h' ho=>?_;obtain ⟨nu,cW,lW,cs,ls,rfl,f1,f2,f3,f4,f5,f6⟩:=cw.1 ho
 have fl:lI true h' (bS i0 r (varsOf r).length nu.av cW lW) (bS i0 r (varsOf r).length (an encI 1 (nu.map (·.2))) (an cZ 1 cs) (an encI 1 ls)):=
  .cons (.scalar _ rfl) (.cons (.scalar _ rfl) (.cons (.dR (cp j8 _)) (.cons (.dR (cp wM _)) (.cons (.scalar _ rfl) (.cons f1 (.cons f3 (.cons f4 .nil)))))))
 exact ⟨_,_,rfl,.agg _ _ fl.len fl.rel,hK (nu.map (·.2)) cs ls (by rw [<- f2];cases nu<;>rfl) f5 f6⟩
theorem rD(vs:List Int)(ps:List Nat):(eu vs ps).length=ps.length:=by simp [eu]
theorem uI(hb:jy n vs=true){ps:List Nat}(we:∀ p ∈ ps,p<vs.length):jy n (eu vs ps)=true:=by
 unfold jy at hb ⊢;rw [List.all_eq_true] at hb ⊢;intro v hv;unfold eu at hv;obtain ⟨p,hp,rfl⟩:=mem_map.1 hv;have sE:=we p hp;refine hb _ ?_;rw [getD_eq_getElem?_getD,ew sE];exact getElem_mem sE
theorem qy{vars xs:List cc}(h:∀ s ∈ xs,s ∈ vars):∀ p ∈ placesOf vars xs,p<vars.length:=fun p hp=>by
 unfold placesOf at hp;obtain ⟨s,hs,rfl⟩:=mem_map.1 hp;exact idxOf_lt_length_of_mem (h s hs)
structure Fu (n:Nat) (D:cc->Option (Nat×List Bool)) (r:aP):Prop where
 rel:∀ c ∈ r.body.l,c.kind=0->n ^ c.args.l.length<=4096/\∃ p,D c.name=some p/\p.2.length=n ^ c.args.l.length
 two:∀ c ∈ r.body.l,c.kind=1\/c.kind=2->c.args.l.length=2
 kinds:∀ c ∈ r.body.l,c.kind=0\/c.kind=1\/c.kind=2
 arity:∀ c ∈ r.body.l,c.args.l.length<=12
def eN(r:aP)(c:eP):List Nat:=placesOf (varsOf r) c.args.l
def Bb(n:Nat)(look:cc->Nat->Bool)(r:aP)(vs:List Int)(upto:Int):Bool:=r.body.l.all fun c=>!decide (iG (eN r c)=upto)||iS n look c (eu vs (eN r c))
set_option maxHeartbeats 1000000 in
theorem IQ{lo:Nat}{r:aP}{nv:Int}{hd:Sl Int}{cs:Sl (Sl Int)}{ls:Sl Int}(hf:r.mj)(hcs:cs.l.map Sl.l=r.body.l.map (fun c=>jg (varsOf r) c.args.l))(KG:ls.l=r.body.l.map (fun c=>iG (placesOf (varsOf r) c.args.l)))
  (hS:h.get S=some (.cells [.int .i64 (n:Int),.map B])) (hD:er D h B lo) (Tb:S<h.next) (h0:h.get N0=some (.cells [.ptr S 0])) (h0n:N0<h.next) (h1:h.get N1=some (.cells (bS i0 r nv (an encI 1 hd) (an cZ 1 cs) (an encI 1 ls)))) (h1n:N1<h.next)
  (h4:h.get N4=some (.cells [.slice V 0 vs.length 1])) (h4n:N4<h.next) (hV:h.get V=some (.cells (vs.map iv))) (VS:V<h.next) (DS:vs.length=(varsOf r).length) (M8:jy n vs=true) (n1:1<=n) (hk:Fu n D r) {upto:Int}
  (hK:∀ h',bC h h'->K (.ret (.bool (Bb n (eR D) r vs upto))) h'=true):Sem TP 157 [.int .i64 upto,.ptr N1 0,.ptr N0 0,.ptr N4 0] h K:=by
 have An:r.body.l.length<=cM:=by have:=hf.2.1;unfold cM;omega
 have hcl:cs.l.length=r.body.l.length:=by have:=congrArg List.length hcs;simpa using this
 have VU:ls.l.length=r.body.l.length:=by rw [KG];simp
 refine F.ry ?_;rw [F.rZ];simp only [bS] at h1;simp only [aS,reduceAdd,reduceEqDiff,reduceIte,ak h1]
 refine aE 0 r.body.l.length (zero_le _) (fun i e h'=>bC h h'/\e 0 = .int .i64 upto/\e 1 = .ptr N1 0/\e 2 = .ptr N0 0/\e 3 = .ptr N4 0/\e 10=an bM 4 r.body/\e 11 = .int .i64 (r.body.l.length:Int)/\e 12 = .int .i64 (i:Int) /\
  (r.body.l.take i).all (fun c=>!decide (iG (eN r c)=upto)||iS n (eR D) c (eu vs (eN r c)))=true) ⟨bC.refl _,rfl,rfl,rfl,rfl,rfl,rfl,rfl,rfl⟩ ?_ ?_
 ·rintro i e h' _ hi ⟨x1,e0,e1,e2,e3,jF,oX,Ba,ht⟩ K' hn hx hr hp;have hv:r.body.l[i]?=some r.body.l[i]:=ew hi;generalize r.body.l[i]=c at hv;have GU:=iq hv;obtain ⟨H2,qJ,c1,co,cn⟩:=cF (h:=h') (zs:=[.int .i64 0,.bool false,.str [],.ay]) (cs:=bM c) (n:=4) rfl rfl (iz c);have x2:bC h H2:=x1.trans ⟨by omega,fun b hb=>co b (by omega)⟩;have q1:H2.get N1=some (.cells [.int .i64 i0,.str r.name,an encS 1 r.args,an bM 4 r.body,.int .i64 nv,an encI 1 hd,an cZ 1 cs,an encI 1 ls]):=by rw [x2.get _ h1n];exact h1
  have q0:H2.get N0=some (.cells [.ptr S 0]):=by rw [x2.get _ h0n];exact h0
  have q4:H2.get N4=some (.cells [.slice V 0 vs.length 1]):=by rw [x2.get _ h4n];exact h4
  have qV:H2.get V=some (.cells (vs.map iv)):=by rw [x2.get _ VS];exact hV
  have aan:ls.l[i]?=some (iG (eN r c)):=by rw [KG,getElem?_map,hv];rfl
  have n1x:=x1.next
  rw [F.cR.aU];simp only [e0,e1,e2,e3,jF,oX,Ba,aS,reduceAdd,reduceEqDiff,reduceIte,bp hi,aV r.body hi,dx iy hv,qJ];simp only [aS,reduceAdd,reduceEqDiff,reduceIte,ak q1,aV ls (show i<ls.l.length by omega),iW aan,cP];by_cases hu:iG (eN r c)=upto
  ·have hci:i<cs.l.length:=by omega
   have nh:cs.l[i]?=some cs.l[i]:=ew hci
   have IS:(cs.l[i]).l=(eN r c).map fun (p:Nat)=>(p:Int):=by
    have h3:(cs.l.map Sl.l)[i]?=some (jg (varsOf r) c.args.l):=(by rw [hcs,getElem?_map,hv];rfl);rw [getElem?_map,nh] at h3;exact Option.some.inj h3
   generalize cs.l[i]=xi at nh IS;have sE:∀ p ∈ eN r c,p<vs.length:=by rw [DS];exact qy (zw GU)
   have qz:(eN r c).length=c.args.l.length:=by unfold eN placesOf;simp
   simp only [fC hu,aL,aS,reduceAdd,reduceEqDiff,reduceIte,ak q0,ak q4,ak q1,ak c1,bM,GN,aV cs hci,ij nh];refine ai (Me (ps:=eN r c) qV (by have:=x2.next;omega) rfl IS sE (by rw [qz];have:=hk.arity c GU;omega) fun h3 t1 x3 t2=>?_);have c3:h3.get h'.next=some (.cells (bM c)):=by rw [x3.get _ (by omega)];exact c1
   have q03:h3.get N0=some (.cells [.ptr S 0]):=by rw [x3.get _ (by have:=x2.next;omega)];exact q0
   have PG:=x2.trans x3;simp only [aS,reduceAdd,reduceEqDiff,reduceIte,ak c3,ak q03,bM,GN,AV.beq_refl,Bool.and_self,Bool.and_true,if_true];have yu:=rD vs (eN r c);have hS3:h3.get S=some (.cells [.int .i64 (n:Int),.map B]):=by rw [PG.get _ Tb];exact hS
   rw [<- yu];refine ai (II (D:=D) (lo:=lo) hS3 (hD.ext PG) n1 t1 t2 (by have:=PG.next;omega) (by rw [yu,qz];exact hk.arity c GU) (uI M8 sE) (fun k0=>by rw [yu,qz];exact hk.rel c GU k0) (fun Np=>by rw [yu,qz];exact hk.two c GU Np) (hk.kinds c GU) fun h5 x5=>?_);simp only [aS,reduceAdd,reduceEqDiff,reduceIte]
   cases hcv:iS n (eR D) c (eu vs (eN r c)) with
   |false=>
    simp only [Bool.not_false,aL];rw [hr,F.cR.bz];have:Bb n (eR D) r vs upto=false:=all_false hv (by rw [fC hu,hcv];rfl);rw [this] at hK;exact hK h5 (PG.trans x5)
   |true=>
    simp only [Bool.not_true,aK,Ba,aJ hi An,aq];exact hn _ _ ⟨PG.trans x5,e0,e1,e2,e3,jF,oX,rfl,jq hv ht (by rw [hcv,Bool.or_true])⟩
  ·simp only [eV hu,aK,Ba,aJ hi An,aq];exact hn _ _ ⟨x2,e0,e1,e2,e3,jF,oX,rfl,jq hv ht (by rw [eV hu];rfl)⟩
 ·rintro e h' ⟨x1,e0,e1,e2,e3,jF,oX,Ba,ht⟩ K' hx;rw [jW (dN _)] at ht;rw [F.cR.aU];simp only [oX,Ba,aS,reduceAdd,reduceEqDiff,reduceIte,aX];rw [hx,F.cR.aG];have:Bb n (eR D) r vs upto=true:=ht;rw [this] at hK;exact hK h' x1
structure Td (σ:Type) (Fv:σ->Heap->Prop) (pW:σ->cc->Option (Nat×List Bool)) (tJ:List Int->σ->σ) (S B n lo base k:Nat) (r:aP) (g:FuncId) (ga gb:List AV) (V0:Nat):Prop where
 n1:1<=n
 xj:n<=64
 sb:S<base
 st:∀ s h,Fv s h->h.get S=some (.cells [.int .i64 (n:Int),.map B])/\er (pW s) h B lo/\Fu n (pW s) r
 gd:∀ s h h',Fv s h->base<=h.next->(∀ b,b<h.next->b≠V0->h'.get b=h.get b)->h.next<=h'.next->Fv s h'
 run:∀ s h vs K,Fv s h->base<=V0->V0<h.next->h.get V0=some (.cells (vs.map iv))->vs.length=k->jy n vs=true ->
  (∀ h',Fv (tJ vs s) h'->(∀ b,base<=b->b<h.next->h'.get b=h.get b)->h.next<=h'.next->K (.ret (.bool true)) h'=true)->Sem TP g (ga++([.slice V0 0 vs.length 1]++gb)) h K
def kQ{σ:Type}(pW:σ->cc->Option (Nat×List Bool))(n:Nat)(r:aP)(v:Nat)(go:List Int->σ->List Int×σ)(acc:List Int×σ)(x:Nat):List Int×σ:=
 if Bb n (eR (pW acc.2)) r (acc.1.set v (x:Int)) (v:Int)=true then go (acc.1.set v (x:Int)) acc.2 else (acc.1.set v (x:Int),acc.2)
def ir{σ:Type}(pW:σ->cc->Option (Nat×List Bool))(tJ:List Int->σ->σ)(n:Nat)(r:aP):Nat->Nat->List Int->σ->List Int×σ
 |0,_,vs,s=>(vs,tJ vs s)
 |m+1,v,vs,s=>(List.range n).foldl (kQ pW n r v (ir pW tJ n r m (v+1))) (vs,s)
theorem rE(h:jy n vs=true)(v:Nat){x:Nat}(hx:x<n):jy n (vs.set v (x:Int))=true:=by
 unfold jy at h ⊢;rw [List.all_eq_true] at h ⊢;intro y hy;rcases mem_or_eq_of_mem_set hy with hy|rfl
 ·exact h y hy
 ·simp;omega
theorem ju{α β:Type}{P:α->Prop}{f:α->β->α}:∀ {l:List β} {a:α},P a->(∀ a b,b ∈ l->P a->P (f a b))->P (l.foldl f a)
 |[],a,h,_=>h
 |b :: l,a,h,hf=>ju (l:=l) (hf a b mem_cons_self h) fun a c hc=>hf a c (mem_cons_of_mem _ hc)
theorem IU{σ:Type}{pW:σ->cc->Option (Nat×List Bool)}{tJ:List Int->σ->σ}{n:Nat}{r:aP}{k:Nat}:∀ (m v:Nat) (vs:List Int) (s:σ),vs.length=k->jy n vs=true->(ir pW tJ n r m v vs s).1.length=k/\jy n (ir pW tJ n r m v vs s).1=true
 |0,v,vs,s,h1,h2=>⟨h1,h2⟩
 |m+1,v,vs,s,h1,h2=>by
  refine ju (P:=fun (a:List Int×σ)=>a.1.length=k/\jy n a.1=true) ⟨h1,h2⟩ fun a x hx ha=>?_;have UC:=mem_range.1 hx;have h3:(a.1.set v (x:Int)).length=k:=by rw [length_set];exact ha.1
  have h4:=rE ha.2 v UC;unfold kQ;split
  ·exact IU m (v+1) _ _ h3 h4
  ·exact ⟨h3,h4⟩
structure Cells (S n k:Nat) (N0 N1 N2 N4 N5 N6 V base:Nat) (i0:Int) (r:aP) (hd:Sl Int) (cs:Sl (Sl Int)) (ls:Sl Int) (g:FuncId) (ga gb:List AV) (h:Heap):Prop where
 h0:h.get N0=some (.cells [.ptr S 0])
 h1:h.get N1=some (.cells (bS i0 r k (an encI 1 hd) (an cZ 1 cs) (an encI 1 ls)))
 h2:h.get N2=some (.cells [.func g ga gb])
 h4:h.get N4=some (.cells [.slice V 0 k 1])
 h5:h.get N5=some (.cells [.func 157 [] [.ptr N1 0,.ptr N0 0,.ptr N4 0]])
 h6:h.get N6=some (.cells [.func 159 [] [.ptr N1 0,.ptr N2 0,.ptr N4 0,.ptr N0 0,.ptr N5 0,.ptr N6 0]])
 lo:base<=N0/\base<=N1/\base<=N2/\base<=N4/\base<=N5/\base<=N6/\base<=V
 hi:N0<h.next/\N1<h.next/\N2<h.next/\N4<h.next/\N5<h.next/\N6<h.next/\V<h.next
 ne:N0≠V/\N1≠V/\N2≠V/\N4≠V/\N5≠V/\N6≠V
theorem Cells.gd{N2 N5 N6:Nat}{r:aP}{hd:Sl Int}{cs:Sl (Sl Int)}{ls:Sl Int}(c:Cells S n k N0 N1 N2 N4 N5 N6 V base i0 r hd cs ls g ga gb h)(hb:∀ b,base<=b->b<h.next->b≠V->h'.get b=h.get b)(hn:h.next<=h'.next) :
  Cells S n k N0 N1 N2 N4 N5 N6 V base i0 r hd cs ls g ga gb h':=by
 obtain ⟨h0,h1,h2,h4,h5,h6,⟨l0,l1,l2,l4,l5,l6,lv⟩,⟨i0',i1,i2,i4,i5,i6,iv'⟩,⟨n0,n1,n2,n4,n5,n6⟩⟩:=c
 exact ⟨by rw [hb _ l0 i0' n0];exact h0,by rw [hb _ l1 i1 n1];exact h1,by rw [hb _ l2 i2 n2];exact h2,by rw [hb _ l4 i4 n4];exact h4,by rw [hb _ l5 i5 n5];exact h5,by rw [hb _ l6 i6 n6];exact h6,
  ⟨l0,l1,l2,l4,l5,l6,lv⟩,⟨by omega,by omega,by omega,by omega,by omega,by omega,by omega⟩,⟨n0,n1,n2,n4,n5,n6⟩⟩
set_option maxHeartbeats 1000000 in
theorem Nq{Fv:σ->Heap->Prop}{pW:σ->cc->Option (Nat×List Bool)}{tJ:List Int->σ->σ}{lo:Nat}{r:aP}(d:Td σ Fv pW tJ S B n lo base k r g ga gb V)
  {N2 N5 N6:Nat} {hd:Sl Int} {cs:Sl (Sl Int)} {ls:Sl Int} (hf:r.mj) (hk:k=(varsOf r).length) (GV:k<=12) (hcs:cs.l.map Sl.l=r.body.l.map (fun c=>jg (varsOf r) c.args.l)) (KG:ls.l=r.body.l.map (fun c=>iG (placesOf (varsOf r) c.args.l))) :
  ∀ (m v:Nat),v+m=k->∀ (vs:List Int) (s:σ) (h:Heap) (K:Out->Heap->Bool),Fv s h->base<=h.next->Cells S n k N0 N1 N2 N4 N5 N6 V base i0 r hd cs ls g ga gb h->h.get V=some (.cells (vs.map iv))->vs.length=k->jy n vs=true ->
   (∀ h',Fv (ir pW tJ n r m v vs s).2 h'->h'.get V=some (.cells ((ir pW tJ n r m v vs s).1.map iv))->(∀ b,base<=b->b<h.next->b≠V->h'.get b=h.get b)->h.next<=h'.next->K (.ret (.bool true)) h'=true) ->
   Sem TP 159 [.int .i64 (v:Int),.ptr N1 0,.ptr N2 0,.ptr N4 0,.ptr N0 0,.ptr N5 0,.ptr N6 0] h K:=by
 intro m
 induction m with
 |zero=>
  intro v hv vs s h K ha MD hc hV DS M8 hK;have h1:=hc.h1;simp only [bS] at h1;refine F.lT ?_;rw [F.mw];simp only [aS,reduceAdd,reduceEqDiff,reduceIte,ak h1,cP,fC (by omega:(v:Int)=(k:Int)),aL,ak hc.h2,ak hc.h4,fA];rw [<- DS];refine ai (d.run s h vs _ ha hc.lo.2.2.2.2.2.2 hc.hi.2.2.2.2.2.2 hV DS M8 fun h' a1 a2 a3=>?_);simp only [aS,reduceAdd,reduceEqDiff,reduceIte];exact hK h' a1 (by rw [a2 V hc.lo.2.2.2.2.2.2 hc.hi.2.2.2.2.2.2];exact hV) (fun b b1 b2 _=>a2 b b1 b2) a3
 |succ m ih=>
  intro v hv vs s h K ha MD hc hV DS M8 hK;have h1:=hc.h1;simp only [bS] at h1;have hS:=(d.st s h ha).1;have xj:=d.xj;refine F.lT ?_;rw [F.mw];simp only [aS,reduceAdd,reduceEqDiff,reduceIte,ak h1,cP,eV (by omega:¬ (v:Int)=(k:Int)),aK,ak hc.h0,ct,ak hS]
  refine aE 0 n (zero_le _) (fun x e h'=>∃ acc:List Int×σ,acc=(List.range x).foldl (kQ pW n r v (ir pW tJ n r m (v+1))) (vs,s)/\Fv acc.2 h'/\h'.get V=some (.cells (acc.1.map iv))/\acc.1.length=k/\jy n acc.1=true /\
   (∀ b,base<=b->b<h.next->b≠V->h'.get b=h.get b)/\h.next<=h'.next/\e 0 = .int .i64 (v:Int)/\e 1 = .ptr N1 0/\e 2 = .ptr N2 0/\e 3 = .ptr N4 0/\e 4 = .ptr N0 0/\e 5 = .ptr N5 0/\e 6 = .ptr N6 0/\e 20 = .int .i64 (n:Int)/\e 21 = .int .i64 (x:Int))
   ⟨(vs,s),rfl,ha,hV,DS,M8,fun _ _ _ _=>rfl,dN _,rfl,rfl,rfl,rfl,rfl,rfl,rfl,rfl,rfl⟩ ?_ ?_
  ·rintro x e h' _ hx ⟨acc,Te,qa,qV,ql,qin,qf,qn,e0,e1,e2,e3,e4,e5,e6,GR,Al⟩ K' hn gm hr hp
   have kj:(List.range (x+1)).foldl (kQ pW n r v (ir pW tJ n r m (v+1))) (vs,s)=kQ pW n r v (ir pW tJ n r m (v+1)) acc x:=by
    rw [range_succ,foldl_append,<- Te];rfl
   unfold kQ at kj;have D5:=hc.gd qf qn;have iM:=yj (v:=(x:Int)) qV (i:=v) (by omega);have WZ:v<k:=by omega
   rw [F.dF.aU];simp only [e0,e3,e5,GR,Al,aS,reduceAdd,reduceEqDiff,reduceIte,bp hx,ak D5.h4,nt WZ,iM];have qn0:(h'.set V (.cells ((acc.1.set v (x:Int)).map iv))).next=h'.next:=Heap.br _ _ _
   have qg:∀ b,b≠V->(h'.set V (.cells ((acc.1.set v (x:Int)).map iv))).get b=h'.get b:=fun b hb=>by rw [Heap.aN,if_neg hb]
   have qV2:(h'.set V (.cells ((acc.1.set v (x:Int)).map iv))).get V=some (.cells ((acc.1.set v (x:Int)).map iv)):=by rw [Heap.aN,if_pos rfl]
   generalize (h'.set V (.cells ((acc.1.set v (x:Int)).map iv)))=H at qn0 qg qV2 ⊢;have cH:=D5.gd (h':=H) (fun b _ _ hb=>qg b hb) (by omega);have lV:=hc.lo.2.2.2.2.2.2;have aH:=d.gd _ _ H qa (by omega) (fun b _ hb=>qg b hb) (by omega);obtain ⟨sS,sD,sA⟩:=d.st _ _ aH;have Ul:(acc.1.set v (x:Int)).length=k:=by rw [length_set];exact ql
   have vq:=rE qin v hx;generalize (acc.1.set v (x:Int))=vs2 at kj qV2 Ul vq;have c4:=cH.h4;rw [<- Ul] at c4;simp only [ak cH.h5,aS,reduceAdd,reduceEqDiff,reduceIte,fA,nil_append,cons_append];refine ai (IQ (n:=n) (B:=B) (lo:=lo) (S:=S) hf hcs KG sS sD (by have:=d.sb;omega) cH.h0 cH.hi.1 cH.h1 cH.hi.2.1 c4 cH.hi.2.2.2.1 qV2 cH.hi.2.2.2.2.2.2 (by omega) vq d.n1 sA fun h3 x3=>?_);have c3:=cH.gd (fun b _ hb _=>x3.get b hb) x3.next
   have a3:=d.gd _ _ h3 aH (by omega) (fun b hb _=>x3.get b hb) x3.next
   have v3:h3.get V=some (.cells (vs2.map iv)):=by rw [x3.get V cH.hi.2.2.2.2.2.2];exact qV2
   have n3:=x3.next
   have f3:∀ b,base<=b->b<h.next->b≠V->h3.get b=h.get b:=fun b b1 b2 b3=>by rw [x3.get b (by omega),qg b b3,qf b b1 b2 b3]
   simp only [aS,reduceAdd,reduceEqDiff,reduceIte]
   cases wQ:Bb n (eR (pW acc.2)) r vs2 (v:Int) with
   |false=>
    rw [wQ,if_neg (by simp)] at kj;simp only [aK,Al,aJ hx (show n<=cM by unfold cM;omega),aq];exact hn _ _ ⟨_,kj.symm,a3,v3,Ul,vq,f3,by omega,e0,e1,e2,e3,e4,e5,e6,GR,rfl⟩
   |true=>
    rw [wQ,if_pos rfl] at kj;have JK:=aJ (i:=v) (n:=13) (by omega) (by unfold cM;omega);simp only [aL,e0,e6,ak c3.h6,aS,reduceAdd,reduceEqDiff,reduceIte,JK,fA,nil_append,cons_append];refine ai (ih (v+1) (by omega) vs2 acc.2 h3 _ a3 (by omega) c3 v3 Ul vq fun h4 a4 v4 f4 n4=>?_);obtain ⟨w1,w2⟩:=IU (pW:=pW) (tJ:=tJ) (r:=r) (k:=k) m (v+1) vs2 acc.2 Ul vq;simp only [aS,reduceAdd,reduceEqDiff,reduceIte,Bool.not_true,aK,Al,aJ hx (show n<=cM by unfold cM;omega)];exact hn _ _ ⟨_,kj.symm,a4,v4,w1,w2,fun b b1 b2 b3=>by rw [f4 b b1 (by omega) b3,f3 b b1 b2 b3],by omega,e0,e1,e2,e3,e4,e5,e6,GR,rfl⟩
  ·rintro e h' ⟨acc,Te,qa,qV,ql,qin,qf,qn,e0,e1,e2,e3,e4,e5,e6,GR,Al⟩ K' gm;rw [F.dF.aU];simp only [GR,Al,aS,reduceAdd,reduceEqDiff,reduceIte,aX];rw [gm,F.dF.aG];have:ir pW tJ n r (m+1) v vs s=acc:=Te.symm;rw [this] at hK;exact hK h' qa qV qf qn
def vS{σ:Type}(pW:σ->cc->Option (Nat×List Bool))(tJ:List Int->σ->σ)(n:Nat)(r:aP)(k:Nat)(s:σ):σ:=
 if Bb n (eR (pW s)) r (replicate k 0) (-1)=true then (ir pW tJ n r k 0 (replicate k 0) s).2 else s
theorem zy(i:Int)(r:aP)(n:Int)(hd:Sl Int)(cs:Sl (Sl Int))(ls:Sl Int):bw (bS i r n (an encI 1 hd) (an cZ 1 cs) (an encI 1 ls))=true:=by
 unfold bS;simp only [bw,fT,Bool.and_true];rfl
theorem BA(h:1<=n)(k:Nat):jy n (replicate k (0:Int))=true:=by
 unfold jy;rw [List.all_eq_true];intro x hx;rw [(mem_replicate.1 hx).2];simp;omega
set_option maxHeartbeats 1000000 in
theorem IV{Fv:Nat->σ->Heap->Prop}{pW:σ->cc->Option (Nat×List Bool)}{tJ:List Int->σ->σ}{lo:Nat}{r:aP}(d:∀ V,h.next<=V->Td σ (Fv V) pW tJ S B n lo base k r g ga gb V)
  {hd:Sl Int} {cs:Sl (Sl Int)} {ls:Sl Int} (hf:r.mj) (hk:k=(varsOf r).length) (GV:k<=12) (hcs:cs.l.map Sl.l=r.body.l.map (fun c=>jg (varsOf r) c.args.l)) (KG:ls.l=r.body.l.map (fun c=>iG (placesOf (varsOf r) c.args.l)))
  {s:σ} (ha:∀ V,h.next<=V->Fv V s h) (MD:base<=h.next)
  (hK:∀ h' V,h.next<=V->Fv V (vS pW tJ n r k s) h'->(∀ b,base<=b->b<h.next->h'.get b=h.get b)->h.next<=h'.next->K (.ret (.tuple [])) h'=true) :
  Sem TP 118 [.ptr S 0,.agg (bS i0 r k (an encI 1 hd) (an cZ 1 cs) (an encI 1 ls)),.func g ga gb] h K:=by
 refine F.sW ?_;rw [F.ve];simp only [pF (x:=.ptr S 0) rfl,c8 (zy i0 r k hd cs ls),pF (x:=.func g ga gb) rfl,aq,Heap.aM]
 have g0:(((h.alloc (.cells [.ptr S 0])).alloc (.cells (bS i0 r k (an encI 1 hd) (an cZ 1 cs) (an encI 1 ls)))).alloc (.cells [.func g ga gb])).get h.next=some (.cells [.ptr S 0]):=by
  rw [Heap.aW,Heap.aM,Heap.aM,if_neg (by omega),Heap.aW,Heap.aM,if_neg (by omega)];exact aB _ _
 have g1:(((h.alloc (.cells [.ptr S 0])).alloc (.cells (bS i0 r k (an encI 1 hd) (an cZ 1 cs) (an encI 1 ls)))).alloc (.cells [.func g ga gb])).get (h.next+1)=some (.cells (bS i0 r k (an encI 1 hd) (an cZ 1 cs) (an encI 1 ls))):=by
  rw [Heap.aW,Heap.aM,Heap.aM,if_neg (by omega)];exact aB _ _
 have g2:(((h.alloc (.cells [.ptr S 0])).alloc (.cells (bS i0 r k (an encI 1 hd) (an cZ 1 cs) (an encI 1 ls)))).alloc (.cells [.func g ga gb])).get (h.next+1+1)=some (.cells [.func g ga gb]):=aB _ _;have gx:bC h (((h.alloc (.cells [.ptr S 0])).alloc (.cells (bS i0 r k (an encI 1 hd) (an cZ 1 cs) (an encI 1 ls)))).alloc (.cells [.func g ga gb])):=((bC.alloc _ _).trans (bC.alloc _ _)).trans (bC.alloc _ _);have gn:(((h.alloc (.cells [.ptr S 0])).alloc (.cells (bS i0 r k (an encI 1 hd) (an cZ 1 cs) (an encI 1 ls)))).alloc (.cells [.func g ga gb])).next=h.next+3:=rfl
 generalize (((h.alloc (.cells [.ptr S 0])).alloc (.cells (bS i0 r k (an encI 1 hd) (an cZ 1 cs) (an encI 1 ls)))).alloc (.cells [.func g ga gb]))=H3 at g0 g1 g2 gx gn ⊢;have g1':=g1;simp only [bS] at g1';simp only [aS,reduceAdd,reduceEqDiff,reduceIte,ak g1',By (show k<=1000000 by omega)];have v6:=aB H3 (.cells ((replicate k (0:Int)).map iv));have x6:=bC.alloc H3 (.cells ((replicate k (0:Int)).map iv));have n6:(H3.alloc (.cells ((replicate k (0:Int)).map iv))).next=H3.next+1:=Heap.aM _ _
 generalize (H3.alloc (.cells ((replicate k (0:Int)).map iv)))=H6 at v6 x6 n6 ⊢;obtain ⟨h7,s7,a7,o7,n7⟩:=mM (h:=H6) (z:=.ay) (v:=.slice H3.next 0 k 1) rfl rfl;obtain ⟨h8,s8,a8,o8,n8⟩:=mM (h:=h7) (z:=.m8) (v:=.func 157 [] [.ptr (h.next+1) 0,.ptr h.next 0,.ptr H6.next 0]) rfl rfl;obtain ⟨h9,s9,a9,o9,n9⟩:=mM (h:=h8) (z:=.m8) (v:=.func 159 [] [.ptr (h.next+1) 0,.ptr (h.next+1+1) 0,.ptr H6.next 0,.ptr h.next 0,.ptr h7.next 0,.ptr h8.next 0]) rfl rfl;simp only [s7,s8,s9,aq];have low:∀ b,b<H6.next->h9.get b=H6.get b:=fun b hb=>by rw [o9 b (by omega),o8 b (by omega),o7 b (by omega)]
 have c:Cells S n k h.next (h.next+1) (h.next+1+1) H6.next h7.next h8.next H3.next base i0 r hd cs ls g ga gb h9:=
  ⟨by rw [low _ (by omega),x6.get _ (by omega)];exact g0,by rw [low _ (by omega),x6.get _ (by omega)];exact g1,by rw [low _ (by omega),x6.get _ (by omega)];exact g2,
   by rw [o9 _ (by omega),o8 _ (by omega)];exact a7,by rw [o9 _ (by omega)];exact a8,a9,
   ⟨by omega,by omega,by omega,by omega,by omega,by omega,by omega⟩,⟨by omega,by omega,by omega,by omega,by omega,by omega,by omega⟩,⟨by omega,by omega,by omega,by omega,by omega,by omega⟩⟩
 have x9:bC h h9:=⟨by omega,fun b hb=>by rw [low b (by omega),x6.get b (by omega),gx.get b hb]⟩
 have v9:h9.get H3.next=some (.cells ((replicate k (0:Int)).map iv)):=by rw [low _ (by omega)];exact v6
 have hV3:h.next<=H3.next:=gx.next
 replace d:=d H3.next hV3
 replace ha:=ha H3.next hV3
 have a9':=d.gd _ _ h9 ha MD (fun b hb _=>x9.get b hb) x9.next
 have WW:(replicate k (0:Int)).length=k:=length_replicate;have VV:=BA d.n1 k;obtain ⟨sS,sD,sA⟩:=d.st _ _ a9';have c4:=c.h4;rw [<- WW] at c4;generalize M8:replicate k (0:Int)=W3 at v9 WW VV c4;have heF:vS pW tJ n r k s=if Bb n (eR (pW s)) r W3 (-1)=true then (ir pW tJ n r k 0 W3 s).2 else s:=by unfold vS;rw [M8]
 simp only [aS,reduceAdd,reduceEqDiff,reduceIte,ak c.h5,fA,nil_append,cons_append];refine ai (IQ (n:=n) (B:=B) (lo:=lo) (S:=S) hf hcs KG sS sD (by have:=d.sb;have:=x9.next;omega) c.h0 c.hi.1 c.h1 c.hi.2.1 c4 c.hi.2.2.2.1 v9 c.hi.2.2.2.2.2.2 (by omega) VV d.n1 sA fun Ub Tf=>?_);have n10:=Tf.next
 have c10:=c.gd (fun b _ hb _=>Tf.get b hb) n10;have QM:=d.gd _ _ Ub a9' (by have:=x9.next;omega) (fun b hb _=>Tf.get b hb) n10;have v10:Ub.get H3.next=some (.cells (W3.map iv)):=by rw [Tf.get _ c.hi.2.2.2.2.2.2];exact v9
 simp only [aS,reduceAdd,reduceEqDiff,reduceIte]
 cases wQ:Bb n (eR (pW s)) r W3 (-1) with
 |false=>
  rw [wQ,if_neg (by simp)] at heF;rw [heF] at hK;simp only [aK];exact hK Ub _ hV3 QM (fun b _ b2=>(x9.trans Tf).get b b2) (x9.trans Tf).next
 |true=>
  rw [wQ,if_pos rfl] at heF;rw [heF] at hK;simp only [aL,aS,reduceAdd,reduceEqDiff,reduceIte,ak c10.h6,fA,nil_append,cons_append];refine ai (Nq d hf hk GV hcs KG k 0 (by omega) W3 s Ub _ QM (by have:=x9.next;omega) c10 v10 WW VV fun h11 RJ v11 f11 n11=>?_);simp only [aS,reduceAdd,reduceEqDiff,reduceIte];exact hK h11 _ hV3 RJ (fun b b1 b2=>by rw [f11 b b1 (by have:=x9.next;omega) (by omega),(x9.trans Tf).get b b2]) (by have:=x9.next;omega)
theorem KH{Fv:σ->Heap->Prop}{pW:σ->cc->Option (Nat×List Bool)}{tJ:List Int->σ->σ}{lo:Nat}{r:aP}(d:∀ V,base<=V->Td σ Fv pW tJ S B n lo base k r g ga gb V)
  {hd:Sl Int} {cs:Sl (Sl Int)} {ls:Sl Int} (hf:r.mj) (hk:k=(varsOf r).length) (GV:k<=12) (hcs:cs.l.map Sl.l=r.body.l.map (fun c=>jg (varsOf r) c.args.l)) (KG:ls.l=r.body.l.map (fun c=>iG (placesOf (varsOf r) c.args.l)))
  {s:σ} (ha:Fv s h) (MD:base<=h.next)
  (hK:∀ h',Fv (vS pW tJ n r k s) h'->(∀ b,base<=b->b<h.next->h'.get b=h.get b)->h.next<=h'.next->K (.ret (.tuple [])) h'=true) :
  Sem TP 118 [.ptr S 0,.agg (bS i0 r k (an encI 1 hd) (an cZ 1 cs) (an encI 1 ls)),.func g ga gb] h K:=
 IV (Fv:=fun _=>Fv) (fun V hV=>d V (by omega)) hf hk GV hcs KG (fun _ _=>ha) MD fun h' _ _=>hK h'
abbrev DB:=cc->Option (Nat×List Bool)
def eC(D D0:DB):Prop:=∀ nm,(D nm).map (fun p=>(p.1,p.2.length))=(D0 nm).map (fun p=>(p.1,p.2.length))
theorem eC.get{D D0:DB}(h:eC D D0){p0:Nat×List Bool}(h0:D0 nm=some p0):∃ p,D nm=some p/\p.1=p0.1/\p.2.length=p0.2.length:=by
 have:=h nm;rw [h0] at this
 cases hd:D nm with
 |none=>rw [hd] at this;cases this
 |some p=>
  rw [hd] at this;simp only [map_some,Option.some.injEq,Prod.mk.injEq] at this;exact ⟨p,rfl,this.1,this.2⟩
theorem eC.back{D D0:DB}(h:eC D D0)(hp:D nm=some p):∃ p0,D0 nm=some p0/\p.1=p0.1/\p.2.length=p0.2.length:=by
 have:=h nm;rw [hp] at this
 cases hd:D0 nm with
 |none=>rw [hd] at this;cases this
 |some p0=>
  rw [hd] at this;simp only [map_some,Option.some.injEq,Prod.mk.injEq] at this;exact ⟨p0,rfl,this.1,this.2⟩
theorem eC.set{D D0:DB}(h:eC D D0)(hp:D nm=some p)(hd:d.length=p.2.length):eC (kO D nm p.1 d) D0:=fun j=>by
 rw [<- h j];unfold kO;by_cases e:j=nm
 ·rw [if_pos e,e,hp,map_some,map_some,hd]
 ·rw [if_neg e]
def sg(n:Nat)(r:aP)(vs:List Int)(s:DB×Bool):DB×Bool:=
 match s.1 r.name with
 |none=>s
 |some p=>if p.2.getD (ni n (eu vs (placesOf (varsOf r) r.args.l))) false=true then s else (kO s.1 r.name p.1 (p.2.set (ni n (eu vs (placesOf (varsOf r) r.args.l))) true),true)
structure oO (S B n lo base P3 P5 P6 PL:Nat) (D0:DB) (r:aP) (i0:Int) (k:Nat) (hd:Sl Int) (cs:Sl (Sl Int)) (ls:Sl Int) (ng:FuncId) (na nb:List AV) (h0:Heap) (s:DB×Bool) (h:Heap):Prop where
 hS:h.get S=some (.cells [.int .i64 (n:Int),.map B])
 hD:er s.1 h B lo
 Nr:eC s.1 D0
 h3:h.get P3=some (.cells [.ptr S 0])
 h5:h.get P5=some (.cells [.func ng na nb])
 h6:h.get P6=some (.cells [.bool s.2])
 hL:h.get PL=some (.cells (bS i0 r k (an encI 1 hd) (an cZ 1 cs) (an encI 1 ls)))
 lt:base<=h.next
 old:∀ b,b<base->b≠P6->(∀ nm p,D0 nm=some p->b≠p.1)->h.get b=h0.get b
structure Mj (S B n lo base P3 P5 P6 PL:Nat) (D0:DB) (r:aP) (k:Nat) (hd:Sl Int) (ng:FuncId) (na nb:List AV):Prop where
 n1:1<=n
 xj:n<=64
 low:S<base/\B<base/\P3<base/\P5<base/\P6<base/\PL<base
 rows:∀ nm p,D0 nm=some p->p.1<base/\p.1≠S/\p.1≠P3/\p.1≠P5/\p.1≠P6/\p.1≠PL
 six:P6≠S/\P6≠B/\P6≠P3/\P6≠P5/\P6≠PL
 ask:∀ D,eC D D0->Fu n D r
 head:n ^ r.args.l.length<=4096/\r.args.l.length<=12/\∃ p,D0 r.name=some p/\p.2.length=n ^ r.args.l.length
 hkk:k=(varsOf r).length
 hhd:hd.l=jg (varsOf r) r.args.l
 note:∀ (i:Int) (r:aP) (k:Int) (hd:Sl Int) (cs:Sl (Sl Int)) (ls:Sl Int) (y:AV) (h:Heap) (K:Out->Heap->Bool),(∀ h',bC h h'->K (.ret (.tuple [])) h'=true)->Sem TP ng (na++([.agg (bS i r k (an encI 1 hd) (an cZ 1 cs) (an encI 1 ls)),y]++nb)) h K
theorem oO.gd{lo:Nat}{D0:DB}{r:aP}{hd:Sl Int}{cs:Sl (Sl Int)}{ls:Sl Int}{h0:Heap}(o:Mj S B n lo base P3 P5 P6 PL D0 r k hd ng na nb){s:DB×Bool}
  (a:oO S B n lo base P3 P5 P6 PL D0 r i0 k hd cs ls ng na nb h0 s h) (hb:∀ b,b<base->h'.get b=h.get b) (hn:h.next<=h'.next):oO S B n lo base P3 P5 P6 PL D0 r i0 k hd cs ls ng na nb h0 s h':=by
 obtain ⟨l1,l2,l3,l4,l5,l6⟩:=o.low;refine ⟨by rw [hb _ l1];exact a.hS,?_,a.Nr,by rw [hb _ l3];exact a.h3,by rw [hb _ l4];exact a.h5,by rw [hb _ l5];exact a.h6,by rw [hb _ l6];exact a.hL,Nat.le_trans a.lt hn,fun b b1 b2 b3=>by rw [hb b b1];exact a.old b b1 b2 b3⟩;obtain ⟨es,ck,m,e1,e2,e3⟩:=a.hD.ex;refine ⟨⟨es,ck,m,by rw [hb _ l2];exact e1,e2,e3⟩,fun nm p hp=>?_,a.hD.inj,Nat.lt_of_lt_of_le a.hD.lt hn⟩;obtain ⟨q1,q2,q3,q4⟩:=a.hD.Co nm p hp;obtain ⟨p0,r1,r2,_⟩:=a.Nr.back hp;have:=(o.rows nm p0 r1).1;exact ⟨q1,Nat.lt_of_lt_of_le q2 hn,q3,by rw [hb _ (by omega)];exact q4⟩
set_option maxHeartbeats 1000000 in
theorem PJ{lo:Nat}{D0:DB}{r:aP}{hd:Sl Int}{cs:Sl (Sl Int)}{ls:Sl Int}{h0:Heap}(o:Mj S B n lo base P3 P5 P6 PL D0 r k hd ng na nb){s:DB×Bool}
  (a:oO S B n lo base P3 P5 P6 PL D0 r i0 k hd cs ls ng na nb h0 s h) (hVb:base<=V) (VS:V<h.next) (hV:h.get V=some (.cells (vs.map iv))) (DS:vs.length=k) (M8:jy n vs=true)
  (hK:∀ h',oO S B n lo base P3 P5 P6 PL D0 r i0 k hd cs ls ng na nb h0 (sg n r vs s) h'->(∀ b,base<=b->b<h.next->h'.get b=h.get b)->h.next<=h'.next->K (.ret (.bool true)) h'=true) :
  Sem TP 146 ([]++([.slice V 0 vs.length 1]++[.ptr PL 0,.ptr P3 0,.ptr P6 0,.ptr P5 0])) h K:=by
 obtain ⟨l1,l2,l3,l4,l5,l6⟩:=o.low;obtain ⟨EG,IA,p0,Bu,aap⟩:=o.head;have hL:=a.hL;simp only [bS] at hL;simp only [nil_append,cons_append];refine F.qu ?_;rw [F.rz];simp only [aS,reduceAdd,reduceEqDiff,reduceIte,ak hL];have sE:∀ p ∈ placesOf (varsOf r) r.args.l,p<vs.length:=by rw [DS,o.hkk];exact qy uH
 have qz:(placesOf (varsOf r) r.args.l).length=r.args.l.length:=by unfold placesOf;simp
 refine ai (Me (ps:=placesOf (varsOf r) r.args.l) hV VS rfl o.hhd sE (by rw [qz];omega) fun h3 t1 x3 t2=>?_);have lt0:=a.lt;have a3:=oO.gd o a (fun b hb=>x3.get b (by omega)) x3.next
 obtain ⟨p,hp,Uz,adq⟩:=a3.Nr.get Bu;have hL3:=a3.hL;simp only [bS] at hL3;have yu:=rD vs (placesOf (varsOf r) r.args.l);have hin:=uI M8 sE;rw [<- yu];have QL:sg n r vs s=if p.2.getD (ni n (eu vs (placesOf (varsOf r) r.args.l))) false=true then s else (kO s.1 r.name p.1 (p.2.set (ni n (eu vs (placesOf (varsOf r) r.args.l))) true),true):=by unfold sg;rw [hp]
 have EH:ni n (eu vs (placesOf (varsOf r) r.args.l))<p.2.length:=by
  have:=wP hin;rw [yu,qz] at this;omega
 have oN:p.2[ni n (eu vs (placesOf (varsOf r) r.args.l))]?=some (p.2.getD (ni n (eu vs (placesOf (varsOf r) r.args.l))) false):=by rw [getD_eq_getElem?_getD,ew EH];rfl
 obtain ⟨b1,b2,b3,b4⟩:=a3.hD.Co r.name p hp;have PK:∀ {K:Out->Heap->Bool},K (.ret (.int .i64 ((ni n (eu vs (placesOf (varsOf r) r.args.l)):Nat):Int))) h3=true->Sem TP 101 [.ptr S 0,.slice h.next 0 (eu vs (placesOf (varsOf r) r.args.l)).length 1] h3 K:=fun hk=>Am a3.hS o.n1 t1 (by rw [yu,qz];exact IA) (by rw [yu,qz];exact EG) hin hk;generalize ni n (eu vs (placesOf (varsOf r) r.args.l))=rk at QL EH oN PK;simp only [aS,reduceAdd,reduceEqDiff,reduceIte,ak a3.h3,ct,ak a3.hS,ak hL3,a3.hD.look hp];refine ai (PK ?_);simp only [aS,reduceAdd,reduceEqDiff,reduceIte,nt EH,GS b4 oN]
 cases WU:p.2.getD rk false with
 |true=>
  rw [WU,if_pos rfl] at QL;simp only [Bool.not_true,aK];rw [QL] at hK;exact hK h3 a3 (fun b _ b2=>x3.get b b2) x3.next
 |false=>
  rw [WU,if_neg (by simp)] at QL;simp only [Bool.not_false,aL,ak a3.h3,aS,reduceAdd,reduceEqDiff,reduceIte];refine ai (PK ?_);obtain ⟨w1,w2,w3,w4,w5,w6⟩:=o.rows r.name p0 Bu;rw [<- Uz] at w1 w2 w3 w4 w5 w6;obtain ⟨y1,y2,y3,y4,y5⟩:=o.six;have lR:=a3.hD.set hp (d:=p.2.set rk true) (by simp);have Tc:=IG (v:=true) b4 EH;have g6:(h3.set p.1 (.cells ((p.2.set rk true).map bv))).get P6=some (.cells [.bool s.2]):=by rw [Heap.aN,if_neg (Ne.symm w5)];exact a3.h6
  have PI:aZ 1 (.ptr P6 0) (.bool true) (h3.set p.1 (.cells ((p.2.set rk true).map bv)))=some ((h3.set p.1 (.cells ((p.2.set rk true).map bv))).set P6 (.cells [.bool true])):=by
   rw [cB (n:=1) g6 rfl rfl (by simp)];rfl
  have q:∀ b,b≠p.1->b≠P6->((h3.set p.1 (.cells ((p.2.set rk true).map bv))).set P6 (.cells [.bool true])).get b=h3.get b:=fun b hb1 hb2=>by rw [Heap.aN,if_neg hb2,Heap.aN,if_neg hb1]
  have q6:((h3.set p.1 (.cells ((p.2.set rk true).map bv))).set P6 (.cells [.bool true])).get P6=some (.cells [.bool true]):=by rw [Heap.aN,if_pos rfl]
  have qn:((h3.set p.1 (.cells ((p.2.set rk true).map bv))).set P6 (.cells [.bool true])).next=h3.next:=by rw [Heap.br,Heap.br]
  have hD':er (kO s.1 r.name p.1 (p.2.set rk true)) ((h3.set p.1 (.cells ((p.2.set rk true).map bv))).set P6 (.cells [.bool true])) B lo:=by
   obtain ⟨es,ck,m,e1,e2,e3⟩:=lR.ex;refine ⟨⟨es,ck,m,by rw [Heap.aN,if_neg (Ne.symm y2)];exact e1,e2,e3⟩,fun nm p' B2=>?_,lR.inj,by rw [Heap.br];exact lR.lt⟩;obtain ⟨c1,c2,c3,c4⟩:=lR.Co nm p' B2;obtain ⟨p0',d1,d2,_⟩:=(a3.Nr.set hp (d:=p.2.set rk true) (by simp)).back B2;have:=(o.rows nm p0' d1).2.2.2.2.1;exact ⟨c1,by rw [Heap.br];exact c2,c3,by rw [Heap.aN,if_neg (by rw [d2];exact this)];exact c4⟩
  simp only [aS,reduceAdd,reduceEqDiff,reduceIte,nt EH,Tc,PI];generalize ((h3.set p.1 (.cells ((p.2.set rk true).map bv))).set P6 (.cells [.bool true]))=H at q q6 qn hD' ⊢
  have aH:oO S B n lo base P3 P5 P6 PL D0 r i0 k hd cs ls ng na nb h0 (sg n r vs s) H:=by
   rw [QL];exact ⟨by rw [q S (Ne.symm w2) (Ne.symm y1)];exact a3.hS,hD',a3.Nr.set hp (by simp),by rw [q P3 (Ne.symm w3) (Ne.symm y3)];exact a3.h3,by rw [q P5 (Ne.symm w4) (Ne.symm y4)];exact a3.h5,q6,by rw [q PL (Ne.symm w6) (Ne.symm y5)];exact a3.hL,by rw [qn];exact a3.lt,fun b b1 b2 b3=>by rw [q b (by rw [Uz];exact b3 _ _ Bu) b2];exact a3.old b b1 b2 b3⟩
  have hLH:=aH.hL;simp only [bS] at hLH;simp only [ak aH.h5,ak hLH,Mh,aS,reduceAdd,reduceEqDiff,reduceIte,fA];refine ai (o.note i0 r k hd cs ls _ H _ fun h9 x9=>?_);simp only [aS,reduceAdd,reduceEqDiff,reduceIte];have ltH:=aH.lt;have n9:=x9.next
  exact hK h9 (oO.gd o aH (fun b hb=>x9.get b (by omega)) n9) (fun b b1 b2=>by have:=x3.next;rw [x9.get b (by omega),q b (by omega) (by omega),x3.get b b2]) (by have:=x3.next;omega)
theorem KI{lo:Nat}{D0:DB}{r:aP}{hd:Sl Int}{cs:Sl (Sl Int)}{ls:Sl Int}{h0:Heap}(o:Mj S B n lo base P3 P5 P6 PL D0 r k hd ng na nb)(V0:Nat)(hV0:base<=V0) :
  Td (DB×Bool) (oO S B n lo base P3 P5 P6 PL D0 r i0 k hd cs ls ng na nb h0) (fun s=>s.1) (sg n r) S B n lo base k r 146 [] [.ptr PL 0,.ptr P3 0,.ptr P6 0,.ptr P5 0] V0:=
 ⟨o.n1,o.xj,o.low.1,fun s h a=>⟨a.hS,a.hD,o.ask _ a.Nr⟩,fun s h h' a MD hb hn=>oO.gd o a (fun b eX=>hb b (by omega) (by omega)) hn,fun s h vs K a h1 h2 h3 h4 h5 hK=>PJ o a h1 h2 h3 h4 h5 hK⟩
theorem De{σ:Type}{pW:σ->DB}{tJ:List Int->σ->σ}{n:Nat}{r:aP}{k:Nat}{Q:σ->Prop}(hQ:∀ vs s,vs.length=k->jy n vs=true->Q s->Q (tJ vs s)):∀ (m v:Nat) (vs:List Int) (s:σ),vs.length=k->jy n vs=true->Q s ->
  ((ir pW tJ n r m v vs s).1.length=k/\jy n (ir pW tJ n r m v vs s).1=true)/\Q (ir pW tJ n r m v vs s).2
 |0,v,vs,s,h1,h2,h3=>⟨⟨h1,h2⟩,hQ vs s h1 h2 h3⟩
 |m+1,v,vs,s,h1,h2,h3=>by
  refine ju (P:=fun (a:List Int×σ)=>(a.1.length=k/\jy n a.1=true)/\Q a.2) ⟨⟨h1,h2⟩,h3⟩ fun a x hx ha=>?_;have UC:=mem_range.1 hx;have h3:(a.1.set v (x:Int)).length=k:=by rw [length_set];exact ha.1.1
  have h4:=rE ha.1.2 v UC;unfold kQ;split
  ·exact De hQ m (v+1) _ _ h3 h4 ha.2
  ·exact ⟨⟨h3,h4⟩,ha.2⟩
theorem rF{pW:σ->DB}{tJ:List Int->σ->σ}{r:aP}{Q:σ->Prop}(n1:1<=n)(hQ:∀ vs s,vs.length=k->jy n vs=true->Q s->Q (tJ vs s)){s:σ}(hs:Q s):Q (vS pW tJ n r k s):=by
 unfold vS;split
 ·exact (De hQ k 0 _ _ length_replicate (BA n1 k) hs).2
 ·exact hs
structure yw where
 i:Int
 r:aP
 hd:Sl Int
 cs:Sl (Sl Int)
 ls:Sl Int
def tK(p:yw):List AV:=bS p.i p.r (varsOf p.r).length (an encI 1 p.hd) (an cZ 1 p.cs) (an encI 1 p.ls)
theorem Fw(p:yw):(tK p).length=8:=rfl
theorem Fx(p:yw):bw (tK p)=true:=zy _ _ _ _ _ _
structure yw.ok (p:yw):Prop where
 mj:p.r.mj
 Np:(varsOf p.r).length<=12
 hd:p.hd.l=jg (varsOf p.r) p.r.args.l
 cs:p.cs.l.map Sl.l=p.r.body.l.map (fun c=>jg (varsOf p.r) c.args.l)
 ls:p.ls.l=p.r.body.l.map (fun c=>iG (placesOf (varsOf p.r) c.args.l))
def kG(n:Nat)(r:aP)(s:DB×Bool):DB×Bool:=vS (fun s=>s.1) (sg n r) n r (varsOf r).length s
def l8(n:Nat)(rs:List aP)(s:DB×Bool):DB×Bool:=rs.foldl (fun s r=>kG n r s) s
theorem KJ{rs:List aP}{i:Nat}{r:aP}(hr:rs[i]?=some r)(s:DB×Bool):l8 n (rs.take (i+1)) s=kG n r (l8 n (rs.take i) s):=by
 unfold l8;rw [take_add_one,hr];simp
inductive Reach (n:Nat) (rs:List aP) (D0:DB):DB->Prop
 |refl:Reach n rs D0 D0
 |step (D:DB):Reach n rs D0 D->Reach n rs D0 (l8 n rs (D,false)).1
theorem GW:∀ (l:List Bool) (i:Nat),l[i]?=some false->(l.set i true).count false<l.count false
 |[],i,h=>by simp at h
 |b :: l,0,h=>by
  simp only [getElem?_cons_zero,Option.some.injEq] at h;subst h;simp
 |b :: l,i+1,h=>by
  rw [getElem?_cons_succ] at h;have:=GW l i h;rw [set_cons_succ,count_cons,count_cons];omega
def VW(D:DB)(nm:cc):Nat:=match D nm with|none=>0|some p=>p.2.count false
def Df(names:List cc)(D:DB):Nat:=(names.map (VW D)).sum
structure IW (names:List cc) (D0 D:DB) (s:DB×Bool):Prop where
 Nr:eC s.1 D0
 le:Df names s.1<=Df names D
 lt:s.2=true->Df names s.1<Df names D
 same:s.2=false->s.1=D
theorem PM{names:List cc}{D0 D:DB}{r:aP}(hin:r.name ∈ names)(hk:k=(varsOf r).length)(hh:∃ p,D0 r.name=some p/\p.2.length=n ^ r.args.l.length){s:DB×Bool}(DS:vs.length=k)(M8:jy n vs=true)(q:IW names D0 D s):IW names D0 D (sg n r vs s):=by
 obtain ⟨p0,Bu,WW⟩:=hh;obtain ⟨p,hp,_,hl⟩:=q.Nr.get Bu;have sE:∀ p ∈ placesOf (varsOf r) r.args.l,p<vs.length:=by rw [DS,hk];exact qy uH
 have qz:(placesOf (varsOf r) r.args.l).length=r.args.l.length:=by unfold placesOf;simp
 have EH:ni n (eu vs (placesOf (varsOf r) r.args.l))<p.2.length:=by
  have:=wP (uI M8 sE);rw [rD,qz] at this;omega
 have QL:sg n r vs s=if p.2.getD (ni n (eu vs (placesOf (varsOf r) r.args.l))) false=true then s else (kO s.1 r.name p.1 (p.2.set (ni n (eu vs (placesOf (varsOf r) r.args.l))) true),true):=by unfold sg;rw [hp]
 rw [QL];generalize ni n (eu vs (placesOf (varsOf r) r.args.l))=rk at EH ⊢;split
 ·exact q
 ·rename_i hb
  have oN:p.2[rk]?=some false:=by
   rw [getD_eq_getElem?_getD,ew EH] at hb;rw [ew EH];simp only [getD_some,not_eq_true] at hb;rw [hb]
  have hlt:Df names (kO s.1 r.name p.1 (p.2.set rk true))<Df names s.1:=by
   refine eA.JQ (fun nm=>?_) (t:=r.name) ?_ hin
   ·unfold VW kO;by_cases e:nm=r.name
    ·subst e;rw [if_pos rfl,hp];exact Nat.le_of_lt (GW _ _ oN)
    ·rw [if_neg e];exact dN _
   ·unfold VW kO;rw [if_pos rfl,hp];exact GW _ _ oN
  have:=q.le;exact ⟨q.Nr.set hp (by simp),by show Df names (kO s.1 r.name p.1 (p.2.set rk true))<=_;omega,fun _=>by show Df names (kO s.1 r.name p.1 (p.2.set rk true))<_;omega,fun h=>by cases h⟩
theorem IX{names:List cc}{D0 D:DB}{r:aP}(n1:1<=n)(hin:r.name ∈ names)(hh:∃ p,D0 r.name=some p/\p.2.length=n ^ r.args.l.length){s:DB×Bool}(q:IW names D0 D s):IW names D0 D (kG n r s):=
 rF n1 (fun vs s h1 h2 h3=>PM hin rfl hh h1 h2 h3) q
theorem Ao(nm:cc)(xs:List cc):mz nm xs=(ej nm&&l7 xs):=by
 unfold mz l7;rw [Bool.and_comm (xs.all ej)]
def jz(r:aP):Bool:=ej r.name&&(l7 r.args.l&&(decide (r.body.l.length<=20)&&(r.body.l.all gI&&decide ((varsOf r).length<=12))))
theorem cQ{r:aP}(kD:r.ok)(hf:r.mj){h:Heap}{K:Out->Heap->Bool}(hK:K (.ret (.bool (jz r))) h=true) :
  Sem TP 112 [.agg [.str r.name,an encS 1 r.args,an bM 4 r.body]] h K:=by
 refine Sem.data (r:=.bool (jz r)) ?_ (by have:=fN r;simpa [aQ,AV.cO,AV.pure] using this) hK;clear hK;have An:r.body.l.length<=cM:=kD.2.2.2.1;refine F.CB ?_;rw [F.Ei];have g0:(Heap.alloc Heap.empty (.cells (aQ r))).get 0=some (.cells (aQ r)):=aB _ _;have gn:(Heap.alloc Heap.empty (.cells (aQ r))).next=1:=rfl
 have hb:eY (.agg [.str r.name,an encS 1 r.args,an bM 4 r.body])=some (aQ r):=c8 (kf r);simp only [hb,aq,bU];generalize (Heap.alloc Heap.empty (.cells (aQ r)))=H at g0 gn ⊢;have fin:∀ (b:Bool) h',b=jz r->pU (.bool (jz r)) (.ret (.bool b)) h'=true:=fun b h' hb=>by rw [hb];exact gw rfl
 generalize pU (.bool (jz r))=R at fin ⊢;simp only [aS,reduceAdd,reduceEqDiff,reduceIte,ak g0,aQ];refine ai (ep ?_);simp only [aS,reduceAdd,reduceEqDiff,reduceIte]
 cases hn:ej r.name with
 |false=>simp only [Bool.not_false,aL];exact fin _ _ (by simp [jz,hn])
 |true=>
 simp only [Bool.not_true,aK,aS,reduceAdd,reduceEqDiff,reduceIte,ak g0,aQ];refine ai (dP kD.2.1 ?_);simp only [aS,reduceAdd,reduceEqDiff,reduceIte]
 cases PN:l7 r.args.l with
 |false=>simp only [Bool.not_false,aL];exact fin _ _ (by simp [jz,PN])
 |true=>
 simp only [Bool.not_true,aK,aS,reduceAdd,reduceEqDiff,reduceIte,ak g0,aQ];by_cases uD:20<r.body.l.length
 ·simp only [fC (by omega:(20:Int)<(r.body.l.length:Int)),aL];exact fin _ _ (by simp [jz,show ¬ r.body.l.length<=20 by omega])
 simp only [eV (by omega:¬ (20:Int)<(r.body.l.length:Int)),aK];have adr:r.body.l.length<=20:=by omega
 refine aE 0 r.body.l.length (zero_le _) (fun i e h'=>bC H h'/\e 1 = .ptr 0 0/\e 3 = .int .i64 (i:Int)/\(r.body.l.take i).all gI=true) ⟨bC.refl _,rfl,rfl,rfl⟩ ?_ ?_
 ·rintro i e h' _ hi ⟨x1,e1,e3,ht⟩ K' uJ hx hr hp;have hv:r.body.l[i]?=some r.body.l[i]:=ew hi;generalize r.body.l[i]=c at hv;have IY:=kD.2.2.2.2 c (iq hv);have q0:h'.get 0=some (.cells (aQ r)):=by rw [x1.get 0 (by omega)];exact g0
  obtain ⟨H2,qJ,k1,ko,kn⟩:=cF (h:=h') (zs:=[.int .i64 0,.bool false,.str [],.ay]) (cs:=bM c) (n:=4) rfl rfl (iz c);have x2:bC H H2:=x1.trans ⟨by omega,fun b hb=>ko b (by omega)⟩;have no:gI c=false->∀ h',R (.ret (.bool false)) h'=true:=fun hc h'=>fin _ _ (by simp [jz,all_false hv hc]);rw [F.cQ.aU];simp only [e1,e3,aS,reduceAdd,reduceEqDiff,reduceIte,ak q0,aQ,bp hi,aV r.body hi,dx iy hv,qJ];simp only [aS,reduceAdd,reduceEqDiff,reduceIte,ak k1,bM,cP];by_cases k0:c.kind=0
  ·have UD:gI c=(ej c.name&&l7 c.args.l):=by unfold gI;rw [if_pos k0,Ao]
   simp only [fC k0,aL,aS,reduceAdd,reduceEqDiff,reduceIte,ak k1,bM];refine ai (ep ?_);simp only [aS,reduceAdd,reduceEqDiff,reduceIte]
   cases n1:ej c.name with
   |false=>
    simp only [Bool.not_false,aL];rw [hr,F.cQ.bz];exact no (by rw [UD,n1];rfl) _
   |true=>
   simp only [Bool.not_true,aK,aS,reduceAdd,reduceEqDiff,reduceIte,ak k1,bM];refine ai (dP IY.2.1 ?_);simp only [aS,reduceAdd,reduceEqDiff,reduceIte]
   cases n2:l7 c.args.l with
   |false=>
    simp only [Bool.not_false,aL];rw [hr,F.cQ.bz];exact no (by rw [UD,n2,Bool.and_false]) _
   |true=>
   simp only [Bool.not_true,aK,aJ hi An,aq];exact uJ _ _ ⟨x2,e1,rfl,jq hv ht (by rw [UD,n1,n2];rfl)⟩
  simp only [eV k0,aK]
  have J:∀ (e:Env) (b:Bool),e 1 = .ptr 0 0->e 3 = .int .i64 (i:Int)->e 4 = .ptr h'.next 0->e 44 = .bool b->(b=true↔(c.kind=1\/c.kind=2))->F.cQ.J0 K' ⟨e,67,[],H2⟩=true:=by
   intro e b e1 e3 e4 e44 hb;rw [F.cQ.CA];simp only [e4,e44,aS,reduceAdd,reduceEqDiff,reduceIte]
   cases b with
   |false=>
    simp only [aK];have:¬ (c.kind=1\/c.kind=2):=fun h=>by have:=hb.2 h;cases this
    rw [hr,F.cQ.bz];exact no (by unfold gI;rw [if_neg k0,if_neg this]) _
   |true=>
    have hk:=hb.1 rfl;have Od:gI c=(decide (c.name = [])&&(decide (c.args.l.length=2)&&c.args.l.all ej)):=by simp only [gI,if_neg k0,if_pos hk]
    simp only [aL,aS,reduceAdd,reduceEqDiff,reduceIte,ak k1,bM,rA];by_cases hn:c.name = []
    ·simp only [fC hn,Bool.not_true,aK,aS,reduceAdd,reduceEqDiff,reduceIte,ak k1,bM,cP];by_cases h2:c.args.l.length=2
     ·simp only [fC (by omega:(c.args.l.length:Int)=2),Bool.not_true,aK,aS,reduceAdd,reduceEqDiff,reduceIte,ak k1,bM];refine ai (dP IY.2.1 ?_);simp only [aS,reduceAdd,reduceEqDiff,reduceIte];have vr:l7 c.args.l=c.args.l.all ej:=by unfold l7;rw [fC (by omega:c.args.l.length<=12),Bool.and_true]
      rw [vr]
      cases n2:c.args.l.all ej with
      |false=>
       simp only [Bool.not_false,aL];rw [hr,F.cQ.bz];exact no (by rw [Od,n2,Bool.and_false,Bool.and_false]) _
      |true=>
       simp only [Bool.not_true,aK,e3,aJ hi An,aq];exact uJ _ _ ⟨x2,e1,rfl,jq hv ht (by rw [Od,n2];simp [hn,h2])⟩
     ·simp only [eV (by omega:¬ (c.args.l.length:Int)=2),Bool.not_false,aL];rw [hr,F.cQ.bz];exact no (by rw [Od];simp [h2]) _
    ·simp only [eV hn,Bool.not_false,aL];rw [hr,F.cQ.bz];exact no (by rw [Od];simp [hn]) _
  by_cases k1':c.kind=1
  ·simp only [fC k1',aL];exact J _ true e1 e3 rfl rfl (by simp [k1'])
  ·simp only [eV k1',aK];exact J _ (decide (c.kind=2)) e1 e3 rfl rfl (by simp [k1'])
 ·rintro e h' ⟨x1,e1,e3,ht⟩ K' hx;have q0:h'.get 0=some (.cells (aQ r)):=by rw [x1.get 0 (by omega)];exact g0
  rw [F.cQ.aU];simp only [e1,e3,aS,reduceAdd,reduceEqDiff,reduceIte,ak q0,aQ,aX];rw [hx,F.cQ.aG];simp only [e1,aS,reduceAdd,reduceEqDiff,reduceIte,ak q0,aQ,rC];refine ai (bN hf fun x jI=>?_);simp only [aS,reduceAdd,reduceEqDiff,reduceIte,jI];rw [jW (dN _)] at ht;refine fin _ _ ?_;unfold jz;rw [hn,PN,fC adr,ht];by_cases IA:(varsOf r).length<=12
  ·rw [fC IA,fC (by omega:((varsOf r).length:Int)<=12)];rfl
  ·rw [eV IA,eV (by omega:¬ ((varsOf r).length:Int)<=12)];rfl
def dY(cs:List eP):List (cc×Int):=(cs.filter fun c=>decide (c.kind=0)).map fun c=>(c.name,(c.args.l.length:Int))
def tL(r:aP):List (cc×Int):=(r.name,(r.args.l.length:Int)) :: dY r.body.l
def cD(rs:List aP):List (cc×Int):=rs.flatMap tL
theorem Dg{cs:List eP}{c:eP}(hc:cs[j]?=some c):dY (cs.take (j+1))=dY (cs.take j)++if c.kind=0 then [(c.name,(c.args.l.length:Int))] else []:=by
 unfold dY;rw [take_add_one,hc,toList_some,filter_append,map_append];by_cases h:c.kind=0<;>simp [h]
theorem pX(cs:List eP):(dY cs).length<=cs.length:=by
 unfold dY;rw [length_map];exact length_filter_le _ _
theorem tM:∀ rs:List aP,(∀ r ∈ rs,r.body.l.length<=20)->(cD rs).length<=rs.length*21
 |[],_=>dN _
 |r :: rs,h=>by
  have h1:=tM rs fun q hq=>h q (mem_cons_of_mem _ hq);have h2:=pX r.body.l;have h3:=h r mem_cons_self;show (tL r++cD rs).length<=_;unfold tL;rw [length_append,length_cons,length_cons];omega
theorem cL{rules:Sl aP}(se:rules.l.length<=60)(uD:∀ r ∈ rules.l,r.body.l.length<=20){h:Heap}{K:Out->Heap->Bool}(hK:∀ x:Sl (cc×Int),x.l=cD rules.l->K (.ret (an nj 2 x)) h=true) :
  Sem TP 113 [an aQ 3 rules] h K:=by
 have hbig:rules.l.length<=cM:=by unfold cM;omega
 have hmx:cJ=140737488355328:=rfl
 have main:Sem TP 113 [an aQ 3 rules] Heap.empty (fun o h'=>yes (∃ v,∃ x:Sl (cc×Int),o = .ret v/\x.l=cD rules.l/\Fz true h' v (an nj 2 x))):=by
  refine F.AN ?_;rw [F.Cx];refine aE 0 rules.l.length (zero_le _) (fun i e h'=>∃ a,Own nj 2 0 h' a (cD (rules.l.take i))/\e 0=an aQ 3 rules/\e 3=a/\e 4 = .int .i64 (i:Int)) ⟨.ay,.nil,rfl,rfl,rfl⟩ ?_ ?_
  ·rintro i e h' _ hi ⟨a,o,e0,e3,e4⟩ K' hn hx hr hp;have hv:rules.l[i]?=some rules.l[i]:=ew hi;generalize rules.l[i]=r at hv;have aad:=uD r (iq hv);have An:r.body.l.length<=cM:=by unfold cM;omega
   have ld:∀ j,j<3->∀ h,ah none (.dQ (rules.l.flatMap aQ) (i*3+j)) h=(aQ r)[j]?:=fun j hj h=>fH gz hv hj;have ld0:∀ h,ah none (.dQ (rules.l.flatMap aQ) (i*3)) h=some (.str r.name):=fun h=>ld 0 (by omega) h
   have hal:(cD (rules.l.take i)).length<=1260:=by
    have h1:=tM (rules.l.take i) fun q hq=>uD q (mem_of_mem_take hq);have h2:=length_take_le i rules.l;omega
   obtain ⟨a1,h1,p1,p2,p3,p4,p5,p6⟩:=o.push oI (fun x=>rfl) (zero_le _) (bytes:=24) (by omega) (r.name,(r.args.l.length:Int));rw [F.cL.aU];simp only [e0,e3,e4,aS,reduceAdd,reduceEqDiff,reduceIte,bp hi,aV rules hi,ld0,ld 1 (by omega),aQ,Pn,Po,p1]
   refine aE 0 r.body.l.length (zero_le _) (fun j e h2=>∃ a,Own nj 2 0 h2 a (cD (rules.l.take i)++(r.name,(r.args.l.length:Int)) :: dY (r.body.l.take j))/\e 0=an aQ 3 rules/\e 3=a/\e 4 = .int .i64 (i:Int)/\e 5 = .int .i64 (j:Int))
    ⟨a1,by simpa [dY] using p2,e0,rfl,e4,rfl⟩ ?_ ?_
   ·rintro j e h2 _ hj ⟨a,o,e0,e3,e4,e5⟩ K2 oW fY qi DT;have hc:r.body.l[j]?=some r.body.l[j]:=ew hj;generalize r.body.l[j]=c at hc;obtain ⟨H2,qJ,k1,ko,kn⟩:=cF (h:=h2) (zs:=[.int .i64 0,.bool false,.str [],.ay]) (cs:=bM c) (n:=4) rfl rfl (iz c);have x2:bC h2 H2:=⟨by omega,fun b hb=>ko b (by omega)⟩
    have iM:=Dg hc;rw [F.cL.dm];simp only [e0,e3,e4,e5,aS,reduceAdd,reduceEqDiff,reduceIte,aV rules hi,ld 2 (by omega),aQ,bp hj,aV r.body hj,dx iy hc,qJ];simp only [aS,reduceAdd,reduceEqDiff,reduceIte,ak k1,bM,cP];by_cases k0:c.kind=0
    ·rw [if_pos k0] at iM
     have hcl:(dY (r.body.l.take j)).length<=20:=by
      have h1:=pX (r.body.l.take j);have h2:=length_take_le' j r.body.l;omega
     obtain ⟨a2,h3,s1,s2,s3,s4,s5,s6⟩:=(o.ext x2).push oI (fun x=>rfl) (zero_le _) (bytes:=24) (by rw [length_append,length_cons];omega) (c.name,(c.args.l.length:Int));simp only [fC k0,aL,aS,reduceAdd,reduceEqDiff,reduceIte,ak k1,bM,Pn,Po,s1,aJ hj An];refine oW _ _ ⟨a2,?_,e0,rfl,e4,rfl⟩;rw [iM];simpa using s2
    ·rw [if_neg k0,append_nil] at iM;simp only [eV k0,aK,aJ hj An,aq];exact oW _ _ ⟨a,by rw [iM];exact o.ext x2,e0,e3,e4,rfl⟩
   ·rintro e h2 ⟨a,o,e0,e3,e4,e5⟩ K2 fY;rw [F.cL.dm];simp only [e0,e4,e5,aS,reduceAdd,reduceEqDiff,reduceIte,aV rules hi,ld 2 (by omega),aQ,aX];rw [fY,F.cL.cx];simp only [e4,aS,reduceAdd,reduceEqDiff,reduceIte,aJ hi hbig];refine hn _ _ ⟨a,?_,e0,e3,rfl⟩;rw [jW (dN _)] at o
    have:cD (rules.l.take (i+1))=cD (rules.l.take i)++(r.name,(r.args.l.length:Int)) :: dY r.body.l:=by
     unfold cD;rw [take_add_one,hv];simp [tL]
    rw [this];exact o
  ·rintro e h' ⟨a,o,e0,e3,e4⟩ K' hx;rw [F.cL.aU];simp only [e0,e4,aS,reduceAdd,reduceEqDiff,reduceIte,aX];rw [hx,F.cL.aG];rw [jW (dN _)] at o;simp only [bP,reduceEqDiff,reduceIte,e3]
   obtain ⟨x,jI,fY⟩:=o.Ky (fun v y hy=>by
    simp only [nj,mem_cons,not_mem_nil,_root_.or_false] at hy
    rcases hy with rfl|rfl<;>exact .scalar _ rfl)
   exact cw.2 ⟨a,x,rfl,jI,fY⟩
 refine main.frozen (by simp [AV.cO,cp fN]) fun o h' ho=>?_;obtain ⟨v,x,rfl,hx,hf⟩:=cw.1 ho;exact ⟨v,_,rfl,hf,hK x hx⟩
theorem Ap{f:St->(AX->St->Bool)->Bool}{K:AX->St->Bool}{defs:List oV}{e0:Env}{h0:Heap}(I:Nat->Env->Heap->Prop)(m:Nat)(hI:I m e0 h0)
  (step:∀ m e h,I m e h->∀ K':AX->St->Bool,(∀ m' e' h',m'<m->I m' e' h'->K' .normal ⟨e',n,defs,h'⟩=true)->(∀ id s,K' (.exit id) s=K (.exit id) s)->(∀ s,K' .ret s=K .ret s)->f ⟨e,n,defs,h⟩ K'=true):bV f ⟨e0,n,defs,h0⟩ K=true:=
 k7 I m hI fun m e h hi=>step m e h hi _ (fun m' e' h' hlt uU=>qT (I:=I) m' hlt uU) (fun _ _=>rfl) (fun _=>rfl)
theorem wT:∀ (l:List cc) (s:cc),(eL l s).length<=l.length+1
 |[],s=>dN _
 |x :: l,s=>by
  have:=wT l s;rw [eL];split
  ·rw [length_cons,length_cons];omega
  ·split
   ·omega
   ·simp
def eF(rs:List aP):List cc:=rs.foldl (fun o r=>eL o r.name) []
theorem Ns{rs:List aP}{i:Nat}{r:aP}(hr:rs[i]?=some r):eF (rs.take (i+1))=eL (eF (rs.take i)) r.name:=by
 unfold eF;rw [take_add_one,hr];simp
theorem rQ:∀ (rs:List aP) (o:List cc),(rs.foldl (fun o r=>eL o r.name) o).length<=o.length+rs.length
 |[],o=>dN _
 |r :: rs,o=>by
  have h1:=rQ rs (eL o r.name);have h2:=wT o r.name;rw [foldl_cons,length_cons];omega
theorem oP(rs:List aP):(eF rs).length<=rs.length:=by
 have:=rQ rs [];simpa [eF] using this
theorem oQ:∀ (rs:List aP) (o:List cc),rP o->rP (rs.foldl (fun o r=>eL o r.name) o)
 |[],o,h=>h
 |r :: rs,o,h=>oQ rs _ (vO h r.name)
theorem pI(rs:List aP):rP (eF rs):=oQ rs [] List.Pairwise.nil
theorem rR{s:cc}:∀ (rs:List aP) (o:List cc),s ∈ rs.foldl (fun o r=>eL o r.name) o↔s ∈ o\/s ∈ bF rs
 |[],o=>by simp [bF]
 |r :: rs,o=>by
  rw [foldl_cons,rR rs,rB];simp [bF,_root_.or_assoc]
theorem fO(rs:List aP):s ∈ eF rs↔s ∈ bF rs:=by
 have:=rR (s:=s) rs [];simpa [eF] using this
theorem Aq{l:List cc}(h:rP l):l.Nodup:=by
 unfold rP at h;unfold List.Nodup;exact h.imp fun {a b} rj e=>by subst e;rw [nP] at rj;cases rj
theorem dD{rules:Sl aP}(se:rules.l.length<=60){h:Heap}{K:Out->Heap->Bool}(hK:∀ x:Sl cc,x.l=eF rules.l->K (.ret (an encS 1 x)) h=true) :
  Sem TP 35 [an aQ 3 rules] h K:=by
 have hbig:rules.l.length<=cM:=by unfold cM;omega
 have main:Sem TP 35 [an aQ 3 rules] Heap.empty (fun o h'=>yes (∃ v,∃ x:Sl cc,o = .ret v/\x.l=eF rules.l/\Fz true h' v (an encS 1 x))):=by
  refine F.xX ?_;rw [F.zb];refine aE 0 rules.l.length (zero_le _) (fun i e h'=>∃ a,Own encS 1 0 h' a (eF (rules.l.take i))/\e 0=an aQ 3 rules/\e 3=a/\e 4 = .int .i64 (i:Int)) ⟨.ay,.nil,rfl,rfl,rfl⟩ ?_ ?_
  ·rintro i e h' _ hi ⟨a,o,e0,e3,e4⟩ K' hn hx hr hp;have hv:rules.l[i]?=some rules.l[i]:=ew hi;generalize rules.l[i]=r at hv;have ld:∀ h,ah none (.dQ (rules.l.flatMap aQ) (i*3)) h=some (.str r.name):=fun h=>fH gz hv (by omega:0<3);have iM:=Ns hv;rw [F.dD.aU];simp only [e0,e3,e4,aS,reduceAdd,reduceEqDiff,reduceIte,bp hi,aV rules hi,ld];refine ai (ez o (zero_le _) (by have h1:=oP (rules.l.take i);have h2:=length_take_le i rules.l;omega) fun a1 h1 x1 o1=>?_);simp only [aS,reduceAdd,reduceEqDiff,reduceIte,aJ hi hbig];exact hn _ _ ⟨a1,by rw [iM];exact o1,e0,rfl,rfl⟩
  ·rintro e h' ⟨a,o,e0,e3,e4⟩ K' hx;rw [F.dD.aU];simp only [e0,e4,aS,reduceAdd,reduceEqDiff,reduceIte,aX];rw [hx,F.dD.aG];rw [jW (dN _)] at o;simp only [bP,reduceEqDiff,reduceIte,e3]
   obtain ⟨x,jI,fY⟩:=o.Ky (fun v y hy=>by
    simp only [encS,mem_cons,not_mem_nil,_root_.or_false] at hy
    subst hy;exact .scalar _ rfl)
   exact cw.2 ⟨a,x,rfl,jI,fY⟩
 refine main.frozen (by simp [AV.cO,cp fN]) fun o h' ho=>?_;obtain ⟨v,x,rfl,hx,hf⟩:=cw.1 ho;exact ⟨v,_,rfl,hf,hK x hx⟩
theorem ee{x:Sl cc}{s:cc}(hx:x.l.length<=cM){h:Heap}{K:Out->Heap->Bool}(zA:∀ i:Nat,x.l[i]?=some s->K (.ret (.int .i64 (i:Int))) h=true)(Bc:s ∉ x.l->K (.ret (.int .i64 (-1))) h=true):Sem TP 128 [an encS 1 x,.str s] h K:=by
 refine F.AL ?_;rw [F.Cw];refine aE 0 x.l.length (zero_le _) (fun i e h'=>h'=h/\e 0=an encS 1 x/\e 1 = .str s/\e 5 = .int .i64 (i:Int)/\s ∉ x.l.take i) ⟨rfl,rfl,rfl,rfl,by simp⟩ ?_ ?_
 ·rintro i e h' _ hi ⟨rfl,e0,e1,e5,ht⟩ K' hn gm hr hp;have hv:x.l[i]?=some x.l[i]:=ew hi;generalize x.l[i]=t at hv;rw [F.ee.aU];simp only [e0,e1,e5,aS,reduceAdd,reduceEqDiff,reduceIte,bp hi,aV x hi,jr hv,rA];by_cases hq:t=s
  ·subst hq;simp only [decide_true,aL];rw [hr,F.ee.bz];exact zA i hv
  ·simp only [eV hq,aK,aJ hi hx,aq];refine hn _ _ ⟨rfl,e0,e1,rfl,?_⟩;rw [take_add_one,hv];simp only [toList_some,mem_append,mem_singleton];exact fun h=>h.elim ht fun h=>hq h.symm
 ·rintro e h' ⟨rfl,e0,e1,e5,ht⟩ K' gm;rw [F.ee.aU];simp only [e0,e5,aS,reduceAdd,reduceEqDiff,reduceIte,aX];rw [gm,F.ee.aG];rw [jW (dN _)] at ht;exact Bc ht
end
end Go.AM