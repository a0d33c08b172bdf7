/- Parts of the proof. Conditions: none. -/
import Derived.Test.YtfdanacohcffmaaGreatKu2
import Derived.Test.YtfdanacohcffmaaGreatKu10
import Derived.Test.YtfdanacohcffmaaGreatKu15
import Derived.Test.YtfdanacohcffmaaGreatKu18
set_option linter.unusedSimpArgs false
set_option linter.unusedVariables false
namespace Go.AM
open List Nat Bool Option
open Go Go.Proofs
noncomputable section
variable {h h':Heap} {K:Out->Heap->Bool} {i b ck k sz:Nat} {α:Type} {es:List Entry} {a:AV} {d:List Int} {l:List b7} {m:eE} {n v:Int} {s:b7}
def mO(n:Int):Bool:=(decide (97<=n)&&decide (n<=122))||(decide (65<=n)&&decide (n<=90))
def wL(n:Int):Bool:=decide (48<=n)&&decide (n<=57)
def words:List b7:=[[97,110,100],[111,114],[110,111,116],[115,111,109,101],[97,108,108],[108,102,112],[112,102,112],[116,99],[101,120,105,115,116,115],[116,114,117,101],[102,97,108,115,101]]
def C5(s:b7):Bool:=words.any fun w=>s==w
theorem yg(hK:K (.ret (.bool (mO n))) h=true):Sem TP 180 [.int .u8 n] h K:=by
 refine F.zc ?_;rw [F.AJ];simp only [qW,xR,aq,cC];unfold mO at hK;by_cases h1:97<=n<;>by_cases h2:n<=122<;>by_cases h3:65<=n<;>by_cases h4:n<=90<;>simpa [h1,h2,h3,h4] using hK
theorem IC(hK:K (.ret (.bool (wL n))) h=true):Sem TP 182 [.int .u8 n] h K:=by
 refine F.AL ?_;rw [F.Cw];simp only [qW,xR,aq,cC];unfold wL at hK;by_cases h1:48<=n<;>by_cases h2:n<=57<;>simpa [h1,h2] using hK
theorem yh(hK:K (.ret (.bool (mO n))) h=true):Sem TP 150 [.int .u8 n] h K:=by
 refine F.ze ?_;rw [F.AN];simp only [qW,xR,aq,cC];unfold mO at hK;by_cases h1:97<=n<;>by_cases h2:n<=122<;>by_cases h3:65<=n<;>by_cases h4:n<=90<;>simpa [h1,h2,h3,h4] using hK
theorem ID(hK:K (.ret (.bool (wL n))) h=true):Sem TP 152 [.int .u8 n] h K:=by
 refine F.AO ?_;rw [F.Cy];simp only [qW,xR,aq,cC];unfold wL at hK;by_cases h1:48<=n<;>by_cases h2:n<=57<;>simpa [h1,h2] using hK
theorem KD(hK:K (.ret (.bool (C5 s))) h=true):Sem TP 181 [.str s] h K:=by
 refine F.Cv ?_;rw [F.En];simp only [Cn,aq,cC];simp only [C5,words,any_cons,any_nil,Bool.or_false] at hK
 repeat (first|exact hK|(generalize (s==_)=b at hK ⊢;cases b<;>simp only [aK,aJ,Bool.true_or,Bool.false_or] at hK ⊢<;>try exact hK))
theorem KE(hK:K (.ret (.bool (C5 s))) h=true):Sem TP 151 [.str s] h K:=by
 refine F.Cx ?_;rw [F.Eo];simp only [Cn,aq,cC];simp only [C5,words,any_cons,any_nil,Bool.or_false] at hK
 repeat (first|exact hK|(generalize (s==_)=b at hK ⊢;cases b<;>simp only [aK,aJ,Bool.true_or,Bool.false_or] at hK ⊢<;>try exact hK))
def okB(b:UInt8):Bool:=mO b.toNat||wL b.toNat
def ef(s:b7):Bool:=match s with
 |[]=>false
 |c :: _=>decide (s.length<=12)&&(mO c.toNat&&(!C5 s&&s.all okB))
theorem jm{p:α->Bool}{l:List α}{a:α}(ha:l[i]?=some a)(ht:(l.take i).all p=true)(hp:p a=true):(l.take (i+1)).all p=true:=by
 rw [take_add_one,ha];simp [ht,hp]
theorem all_false{p:α->Bool}{l:List α}{a:α}(ha:l[i]?=some a)(hp:p a=false):l.all p=false:=by
 rw [eq_false_iff];intro h;rw [List.all_eq_true] at h;have:=h a (ig ha);rw [hp] at this;cases this
theorem ej{s:b7}{h:Heap}{K:Out->Heap->Bool}(hK:K (.ret (.bool (ef s))) h=true):Sem TP 153 [.str s] h K:=by
 refine F.Ct ?_;rw [F.El]
 cases s with
 |nil=>simpa [ef,nF,qT,ay,af] using hK
 |cons c s'=>
  have h0:(c :: s')[0]?=some c:=rfl;simp only [nF,qT,GH,aq,cC];have h1:decide (((c :: s').length:Int)<1)=false:=by simp;omega
  simp only [h1,aJ];by_cases h2:(c :: s').length<=12
  ·have h3:decide ((12:Int)<((c :: s').length:Int))=false:=by simp at h2 ⊢;omega
   simp only [h3,aJ];rw [show kS (.str (c :: s')) (.int .i64 0)=some (.int .u8 (c.toNat:Int)) from BB (i:=0) h0];simp only [aq];refine ah (yg ?_);simp only [kK,oC,aq,cC]
   cases hl:mO c.toNat with
   |false=>simpa [ef,hl] using hK
   |true=>
    simp only [Bool.not_true,aJ];refine ah (KD ?_);simp only [kK,cC]
    cases hw:C5 (c :: s') with
    |true=>simpa [ef,hl,hw] using hK
    |false=>
     simp only [aJ];have hn:ef (c :: s')=(c :: s').all okB:=by simp only [ef,hl,hw,Bool.not_false,Bool.true_and];rw [fy h2,Bool.true_and]
     rw [hn] at hK;have h4:((c :: s').take 1).all okB=true:=by simp [okB,hl]
     have h5:1<=(c :: s').length:=(by simp);clear h0 h1 h3 hl hw hn;generalize (c :: s')=s at hK h2 h4 h5 ⊢;refine aD 1 s.length h5 (fun i e h'=>h'=h/\e 0 = .str s/\e 3 = .int .i64 (i:Int)/\(s.take i).all okB=true) ⟨rfl,rfl,rfl,h4⟩ ?_ ?_
     ·rintro i e h' _ hi ⟨rfl,e0,e3,ht⟩ K' hn hx hr hp;have hb:s[i]?=some s[i]:=eA hi;have hlt:decide ((i:Int)<(s.length:Int))=true:=by simp;omega
      rw [F.ej.aT];simp only [e0,e3,nF,qT,BB hb,aq,cC,hlt,aK];refine ah (yg ?_);simp only [kK,oC,aq,cC]
      cases hl:mO s[i].toNat with
      |true=>
       simp only [Bool.not_true,aJ,jd (a:=(i:Int)) (b:=1) (by omega) (by omega),aq];exact hn _ _ ⟨rfl,e0,rfl,jm hb ht (by simp [okB,hl])⟩
      |false=>
       simp only [Bool.not_false,aK];refine ah (IC ?_);simp only [kK,oC,aq,cC]
       cases hd:wL s[i].toNat with
       |true=>
        simp only [Bool.not_true,aJ,jd (a:=(i:Int)) (b:=1) (by omega) (by omega),aq];exact hn _ _ ⟨rfl,e0,rfl,jm hb ht (by simp [okB,hd])⟩
       |false=>
        simp only [Bool.not_false,aK];rw [hr,F.ej.bC];have:s.all okB=false:=all_false hb (by simp [okB,hl,hd]);rw [this] at hK;exact hK
     ·rintro e h' ⟨rfl,e0,e3,ht⟩ K' hx;have hlt:decide ((s.length:Int)<(s.length:Int))=false:=by simp
      rw [F.ej.aT];simp only [e0,e3,nF,qT,aq,cC,hlt,aJ];rw [hx,F.ej.aG];rw [kf (dM _)] at ht;rw [ht] at hK;exact hK
  ·have h3:decide ((12:Int)<((c :: s').length:Int))=true:=by simp at h2 ⊢;omega
   simp only [h3,aK];have:ef (c :: s')=false:=by simp only [ef];rw [eR h2];rfl
   rw [this] at hK;exact hK
theorem dQ{s:b7}{h:Heap}{K:Out->Heap->Bool}(hK:K (.ret (.bool (ef s))) h=true):Sem TP 107 [.str s] h K:=by
 refine F.Cu ?_;rw [F.Em]
 cases s with
 |nil=>simpa [ef,Cn,ay,af] using hK
 |cons c s'=>
  have h0:(c :: s')[0]?=some c:=rfl;have h1:((c :: s')==([]:b7))=false:=rfl;simp only [nF,Cn,GH,aq,cC,h1,aJ];by_cases h2:(c :: s').length<=12
  ·have h3:decide ((12:Int)<((c :: s').length:Int))=false:=by simp at h2 ⊢;omega
   simp only [h3,aJ];rw [show kS (.str (c :: s')) (.int .i64 0)=some (.int .u8 (c.toNat:Int)) from BB (i:=0) h0];simp only [aq];refine ah (yh ?_);simp only [kK,oC,aq,cC]
   cases hl:mO c.toNat with
   |false=>simpa [ef,hl] using hK
   |true=>
    simp only [Bool.not_true,aJ];refine ah (KE ?_);simp only [kK,cC]
    cases hw:C5 (c :: s') with
    |true=>simpa [ef,hl,hw] using hK
    |false=>
     simp only [aJ,nF,aq];have hn:ef (c :: s')=(c :: s').all okB:=by simp only [ef,hl,hw,Bool.not_false,Bool.true_and];rw [fy h2,Bool.true_and]
     rw [hn] at hK;have h4:((c :: s').take 1).all okB=true:=by simp [okB,hl]
     have h5:1<=(c :: s').length:=(by simp);clear h0 h1 h3 hl hw hn;generalize (c :: s')=s at hK h2 h4 h5 ⊢;refine aD 0 s.length (zero_le _) (fun i e h'=>h'=h/\e 0 = .str s/\e 23 = .int .i64 (i:Int)/\e 22 = .int .i64 (s.length:Int)/\(s.take i).all okB=true) ⟨rfl,rfl,rfl,rfl,rfl⟩ ?_ ?_
     ·rintro i e h' _ hi ⟨rfl,e0,e3,Be,ht⟩ K' hn hx hr hp;have hb:s[i]?=some s[i]:=eA hi;have hlt:decide ((i:Int)<(s.length:Int))=true:=by simp;omega
      rw [F.dQ.aT];simp only [e0,e3,Be,nF,qT,BB hb,aq,cC,hlt,aK];refine ah (yh ?_);simp only [kK,oC,aq,cC]
      cases hl:mO s[i].toNat with
      |true=>
       simp only [Bool.not_true,aJ,jd (a:=(i:Int)) (b:=1) (by omega) (by omega),aq];exact hn _ _ ⟨rfl,e0,rfl,Be,jm hb ht (by simp [okB,hl])⟩
      |false=>
       simp only [Bool.not_false,aK];refine ah (ID ?_);simp only [kK,oC,aq,cC]
       cases hd:wL s[i].toNat with
       |true=>
        simp only [Bool.not_true,aJ,jd (a:=(i:Int)) (b:=1) (by omega) (by omega),aq];exact hn _ _ ⟨rfl,e0,rfl,Be,jm hb ht (by simp [okB,hd])⟩
       |false=>
        simp only [Bool.not_false,aK];rw [hr,F.dQ.bC];have:s.all okB=false:=all_false hb (by simp [okB,hl,hd]);rw [this] at hK;exact hK
     ·rintro e h' ⟨rfl,e0,e3,Be,ht⟩ K' hx;have hlt:decide ((s.length:Int)<(s.length:Int))=false:=by simp
      rw [F.dQ.aT];simp only [e0,e3,Be,nF,qT,aq,cC,hlt,aJ];rw [hx,F.dQ.aG];rw [kf (dM _)] at ht;rw [ht] at hK;exact hK
  ·have h3:decide ((12:Int)<((c :: s').length:Int))=true:=by simp at h2 ⊢;omega
   simp only [h3,aK];have:ef (c :: s')=false:=by simp only [ef];rw [eR h2];rfl
   rw [this] at hK;exact hK
theorem iV{x:Sl Int}(hv:x.l[i]?=some v):ag none (.dO (x.l.flatMap encI) (i*1)) h=some (.int .i64 v):=by
 rw [wz mT hv];rfl
def jo(n:Int)(l:List Int):Bool:=l.all fun x=>!decide (x<0)&&!decide (n<=x)
def iv(n:Int):AV:=.int .i64 n
theorem tE(d:List Int):d.map iv=d.flatMap encI:=by
 induction d with
 |nil=>rfl
 |cons a d ih=>rw [map_cons,flatMap_cons,ih];rfl
theorem nr{n:Nat}{k:IntKind}(h:i<n):dG 1 (.slice b 0 n 1) (.int k (i:Int))=some (.ptr b i):=by simp [dG,asNat,h]
theorem nG(hb:h.get b=some (.cells (d.map iv)))(hv:d[i]?=some v):ag none (.ptr b i) h=some (.int .i64 v):=by
 rw [aj hb,uz,getElem?_map,hv];rfl
theorem yj(hb:h.get b=some (.cells (d.map iv)))(hi:i<d.length):aY 1 (.ptr b i) (.int .i64 v) h=some (h.set b (.cells ((d.set i v).map iv))):=by
 rw [cF (n:=1) hb rfl rfl (by simp;omega),map_set];rfl
theorem Wd(n:Nat):ja [.int .i64 0] n=(replicate n (0:Int)).map iv:=by
 induction n with
 |zero=>rfl
 |succ n ih=>rw [ja,ih];rfl
theorem BC{n:Nat}(hn:n<=1000000)(h:Heap):gz 1 8 [.int .i64 0] (.int .i64 (n:Int)) (.int .i64 (n:Int)) h=some (.slice h.next 0 n 1,h.alloc (.cells ((replicate n (0:Int)).map iv))):=by
 have:(8*(n:Int))<=140737488355328:=by omega
 simp [gz,yO,this,Wd]
theorem IE(hb:h.get b=some (.cells (d.map iv))):Fz true h (.slice b 0 d.length 1) (ak encI 1 (some d)):=by
 refine .slice b 0 d.length 1 _ _ hb (by rw [tE]) fun i x y hx hy=>?_;rw [tE,hy] at hx;cases hx;rw [<- tE,getElem?_map] at hy;obtain ⟨v,hv,rfl⟩:=map_eq_some_iff.1 hy;exact .scalar _ rfl
theorem IF{n:Nat}(h1:1<=n)(h2:n<=cM):aF .sub (.int .i64 (n:Int)) (.int .i64 1)=some (.int .i64 ((n-1:Nat):Int)):=by
 unfold cM at h2;rw [pz (by omega) (by omega)];congr 2;omega
theorem Py(a b:Int):∃ v,aF .add (.int .i64 a) (.int .i64 b)=some (.int .i64 v):=⟨_,RY a b⟩
def vr(n:Nat):List Int->Nat->Nat
 |[],r=>r
 |x :: l,r=>vr n l (r*n+x.toNat)
def nc(n:Nat)(l:List Int):Nat:=vr n l 0
inductive Own {α:Type} (enc:α->List AV) (sz k:Nat) (h:Heap):AV->List α->Prop
 |nil:Own enc sz k h .ax []
 |row (b:Nat) (l:List α):k<=b->b<h.next->h.get b=some (.cells (l.flatMap enc))->Own enc sz k h (.slice b 0 l.length sz) l
variable {α:Type} {enc:α->List AV} {sz k:Nat}
theorem Own.len{l:List α}(o:Own enc sz k h a l):bU .slice a h'=some (.int .i64 (l.length:Int)):=by
 cases o<;>rfl
theorem Own.ext{l:List α}(o:Own enc sz k h a l)(hx:bA h h'):Own enc sz k h' a l:=by
 cases o with
 |nil=>exact .nil
 |row b l h1 h2 h3=>exact .row b l h1 (Nat.lt_of_lt_of_le h2 hx.next) (by rw [hx.get b h2];exact h3)
theorem Own.get{l:List α}(o:Own enc sz k h a l)(he:∀ x,(enc x).length=sz){v:α}(hv:l[i]?=some v) :
  ∃ b,k<=b/\b<h.next/\(∀ q:IntKind,dG sz a (.int q (i:Int))=some (.ptr b (i*sz)))/\ag (some sz) (.ptr b (i*sz)) h=some (.agg (enc v))/\∀ m,m<sz->ag none (.ptr b (i*sz+m)) h=(enc v)[m]?:=by
 cases o with
 |nil=>simp at hv
 |row b l h1 h2 h3=>
  have hi:=(kg.1 hv).1;refine ⟨b,h1,h2,fun q=>by simp [dG,asNat,hi],?_,fun m hm=>by rw [aj h3,uz,pq he l i m v hv hm]⟩;rw [aj h3];have hp:=nE he l i v hv;simp only [iX]
  have hlen:i*sz+sz<=(l.flatMap enc).length:=by
   rw [fH he];have:(i+1)*sz<=l.length*sz:=mul_le_mul_right sz hi;rw [succ_mul] at this;exact this
  rw [if_pos (by simpa using hlen),hp]
section
variable {α:Type} {enc:α->List AV} {sz k:Nat}
structure Row (enc:α->List AV) (sz:Nat) (h:Heap) (x:AV) (l:List α):Prop where
 len:kX x=some l.length
 cells:iq sz l.length x h=some (l.flatMap enc)
theorem Fy(he:∀ x,(enc x).length=sz):∀ (l:List α) (i:Nat),(l.flatMap enc).take (i*sz)=(l.take i).flatMap enc
 |[],i=>by simp
 |x :: l,0=>by simp
 |x :: l,i+1=>by
  rw [flatMap_cons,take_succ_cons,flatMap_cons,take_append,he,succ_mul,Nat.add_sub_cancel,Fy he l i,kf (by rw [he];omega)]
theorem FA(he:∀ x,(enc x).length=sz):∀ (l:List α) (i:Nat),(l.flatMap enc).drop (i*sz)=(l.drop i).flatMap enc
 |[],i=>by simp
 |x :: l,0=>by simp
 |x :: l,i+1=>by
  rw [flatMap_cons,drop_succ_cons,drop_append,he,succ_mul,Nat.add_sub_cancel,FA he l i,drop_of_length_le (by rw [he];omega),nil_append]
theorem Own.Tk{l:List α}(o:Own enc sz k h a l)(he:∀ x,(enc x).length=sz)(hi:i<=l.length) :
  ∃ x,(∀ q:IntKind,gZ (some sz) a none (some (.int q (i:Int)))=some x)/\∀ h',bA h h'->Row enc sz h' x (l.take i):=by
 cases o with
 |nil=>simp at hi;subst hi;exact ⟨.ax,fun q=>by simp [gZ,kX,nY,asNat],fun h' _=>⟨rfl,rfl⟩⟩
 |row b l h1 h2 h3=>
  refine ⟨.slice b 0 i sz,fun q=>by simp [gZ,kX,nY,asNat,hi],fun h' hx=>⟨by simp [kX,Nat.min_eq_left hi],?_⟩⟩;have Xv:h'.get b=some (.cells (l.flatMap enc)):=by rw [hx.get b h2];exact h3
  have hl:(l.flatMap enc).length=l.length*sz:=fH he l;have hm:(l.take i).length=i:=by rw [length_take,Nat.min_eq_left hi]
  simp only [iq,Xv,if_true,Nat.zero_add,hl,hm,drop_zero];rw [if_pos (mul_le_mul_right sz hi),Fy he]
theorem Own.Tl{l:List α}(o:Own enc sz k h a l)(he:∀ x,(enc x).length=sz)(hi:i<=l.length) :
  ∃ x,(∀ q:IntKind,gZ (some sz) a (some (.int q (i:Int))) none=some x)/\∀ h',bA h h'->Row enc sz h' x (l.drop i):=by
 cases o with
 |nil=>simp at hi;subst hi;exact ⟨.ax,fun q=>by simp [gZ,kX,nY,asNat],fun h' _=>⟨rfl,rfl⟩⟩
 |row b l h1 h2 h3=>
  refine ⟨.slice b (i*sz) (l.length-i) sz,fun q=>by simp [gZ,kX,nY,asNat,hi],fun h' hx=>⟨by simp [kX],?_⟩⟩;have Xv:h'.get b=some (.cells (l.flatMap enc)):=by rw [hx.get b h2];exact h3
  have hl:(l.flatMap enc).length=l.length*sz:=fH he l;have hm:(l.drop i).length=l.length-i:=by rw [length_drop]
  simp only [iq,Xv,if_true,hl,hm];have hle:i*sz+(l.length-i)*sz<=l.length*sz:=by rw [<- Nat.add_mul];exact mul_le_mul_right sz (by omega)
  rw [if_pos hle,FA he,kf];rw [fH he,hm];exact dM _
theorem tF(h1:∀ x,bw (enc x)=true):∀ l:List α,bw (l.flatMap enc)=true
 |[]=>rfl
 |x :: l=>by
  have app:∀ a b:List AV,bw a=true->bw b=true->bw (a++b)=true:=by
   intro a b ha hb
   induction a with
   |nil=>exact hb
   |cons y a ih=>
    simp only [bw,cons_append,and_eq_true] at ha ⊢;exact ⟨ha.1,ih ha.2⟩
  rw [flatMap_cons];exact app _ _ (h1 x) (tF h1 l)
def cz:AV->Option Nat
 |.slice b _ _ _=>some b
 |_=>none
theorem Own.append{x:AV}{l m:List α}(o:Own enc sz k h a l)(he:∀ x,(enc x).length=sz)(h1:∀ x,bw (enc x)=true)(r:Row enc sz h x m)(hk:k<=h.next){bytes:Nat}(hroom:(l.length+m.length)*bytes<=cG) :
  ∃ a' h',b6 sz bytes a x h=some (a',h')/\Own enc sz k h' a' (l++m)/\(∀ c,c<h.next->cz a≠some c->h'.get c=h.get c)/\h.next<=h'.next/\(m≠[]->∀ c,cz a'=some c->h.next<=c):=by
 cases o with
 |nil=>
  rw [length_nil,Nat.zero_add] at hroom
  cases m with
  |nil=>
   refine ⟨.ax,h,?_,.nil,fun _ _ _=>rfl,dM _,fun h=>absurd rfl h⟩;have hc:=r.cells;have hl:=r.len;simp only [length_nil] at hc hl;simp [b6,hl,hc]
  |cons y m=>
   refine ⟨.slice h.next 0 (y :: m).length sz,h.alloc (.cells ((y :: m).flatMap enc)),?_,.row _ _ hk (lt_succ_self _) (aB _ _),fun c hc _=>by rw [Heap.aU,if_neg (by omega)],le_succ _,fun _ c hc=>by cases hc;exact dM _⟩;have h0:¬ (y :: m).length=0:=by simp
   simp only [b6,r.len,r.cells,if_neg h0];rw [if_pos (by rw [and_eq_true];exact ⟨fy hroom,tF h1 _⟩)]
 |row b l hb1 hb2 hb3=>
  cases m with
  |nil=>
   rw [append_nil];refine ⟨.slice b 0 l.length sz,h,?_,.row b l hb1 hb2 hb3,fun _ _ _=>rfl,dM _,fun h=>absurd rfl h⟩;have hc:=r.cells;have hl:=r.len;simp only [length_nil] at hc hl;simp [b6,hl,hc]
  |cons y m=>
   have h0:¬ (y :: m).length=0:=by simp
   have hl:(l.flatMap enc).length=l.length*sz:=fH he l;refine ⟨.slice h.next 0 (l++y :: m).length sz,(h.set b .dead).alloc (.cells ((l++y :: m).flatMap enc)),?_,.row _ _ hk ?_ ?_,fun c hc hne=>?_,?_,fun _ c hc=>by cases hc;exact dM _⟩
   ·simp only [b6,r.len,r.cells,if_neg h0,if_true,hb3,drop_zero,Nat.zero_add];rw [if_pos (by rw [and_eq_true,and_eq_true];exact ⟨⟨fy hroom,tF h1 _⟩,fy (by omega)⟩),<- hl,take_length,flatMap_append,length_append]
   ·rw [Heap.aL,Heap.bt];omega
   ·have:=aB (h.set b .dead) (.cells ((l++y :: m).flatMap enc))
    rwa [Heap.bt] at this
   ·rw [Heap.aU,Heap.bt,if_neg (by omega),Heap.aN,if_neg (fun e=>hne (by rw [e];rfl))]
   ·rw [Heap.aL,Heap.bt];omega
end
theorem oG(s:b7):bw (encS s)=true:=rfl
def strLt(a b:b7):Bool:=Op.bytesLess a b
def eL:List b7->b7->List b7
 |[],s=>[s]
 |x :: l,s=>if strLt x s=true then x :: eL l s else if x=s then x :: l else s :: x :: l
theorem Tm(a b:b7):aF .lss (.str a) (.str b)=some (.bool (strLt a b)):=by simp [aF,strLt]
theorem rA(a b:b7):(a==b)=decide (a=b):=by
 by_cases h:a=b
 ·subst h;simp
 ·rw [eR h];simp [h]
theorem IG{x:b7}(hx:l[i]?=some x):l.take i++eL (l.drop i) s=if strLt x s=true then l.take (i+1)++eL (l.drop (i+1)) s else if x=s then l else l.take i++(s :: l.drop i):=by
 have h1:=(kg.1 hx).1
 have hd:l.drop i=x :: l.drop (i+1):=by
  rw [drop_eq_getElem_cons h1];rw [eA h1] at hx;cases hx;rfl
 rw [hd,eL];split
 ·rw [take_add_one,hx];simp
 ·split
  ·rw [<- hd,take_append_drop]
  ·rfl
theorem Own.ge{enc:α->List AV}{l:List α}(o:Own enc sz k h a l){c:Nat}(hc:cz a=some c):k<=c:=by
 cases o with
 |nil=>cases hc
 |row b l h1 _ _=>cases hc;exact h1
theorem Own.C6{enc:α->List AV}{j:Nat}{l:List α}(o:Own enc sz k h a l)(hj:j<=k):Own enc sz j h a l:=by
 cases o with
 |nil=>exact .nil
 |row b l h1 h2 h3=>exact .row b l (Nat.le_trans hj h1) h2 h3
theorem er{k:Nat}{h:Heap}{a:AV}{l:List b7}{s:b7}(o:Own encS 1 k h a l)(hk:k<=h.next)(hl:l.length<=100000){K:Out->Heap->Bool}
  (hK:∀ a' h',bA h h'->Own encS 1 k h' a' (eL l s)->K (.ret a') h'=true):Sem TP 79 [a,.str s] h K:=by
 have hbig:l.length<=cM:=by unfold cM;omega
 refine F.zf ?_;rw [F.AQ]
 have app:∀ i,i<=l.length->eL l s=l.take i++(s :: l.drop i)->∀ e:Env,e 0=a->e 1 = .str s->e 5 = .int .i64 (i:Int) ->
   (af (fS [] [] []) fun c11=>
    af (gZ (some 1) (e 0) none (some (e 5))) fun x12=>
    af (fS [(.str [])] [(0,1)] [(e 1)]) fun c13=>
    af (gZ (some 1) (e 0) (some (e 5)) none) fun x14=>
    cZ (b6 1 16 (.slice (Heap.next h) 0 0 1) x12 (Heap.alloc (Heap.alloc h (.cells c11)) (.cells c13))) fun x15 h16=>
    cZ (b6 1 16 x15 (.slice (Heap.next (Heap.alloc h (.cells c11))) 0 1 1) h16) fun x17 h18=>
    cZ (b6 1 16 x17 x14 h18) fun x19 uH=>
    K (.ret x19) uH)=true:=by
  intro i hi he e e0 e1 e5;obtain ⟨x12,ad8,r12⟩:=o.Tk iA hi;obtain ⟨x14,ad9,r14⟩:=o.Tl iA hi;rw [show fS [] [] []=some [] from rfl];simp only [aq,e0,e1,e5,ad8,ad9];rw [show fS [(.str [])] [(0,1)] [.str s]=some [.str s] from rfl];simp only [aq];have jG:bA h (Heap.alloc (Heap.alloc h (.cells [])) (.cells [.str s])):=(bA.alloc _ _).trans (bA.alloc _ _)
  have g0:(Heap.alloc (Heap.alloc h (.cells [])) (.cells [.str s])).get h.next=some (.cells []):=by
   rw [Heap.aU,Heap.aL,if_neg (by omega)];exact aB _ _
  have g1:(Heap.alloc (Heap.alloc h (.cells [])) (.cells [.str s])).get (h.next+1)=some (.cells [.str s]):=aB _ _;have gn:(Heap.alloc (Heap.alloc h (.cells [])) (.cells [.str s])).next=h.next+2:=rfl
  rw [Heap.aL];generalize (Heap.alloc (Heap.alloc h (.cells [])) (.cells [.str s]))=H at jG g0 g1 gn ⊢;have o0:Own encS 1 h.next H (.slice h.next 0 0 1) ([]:List b7):=.row h.next [] (dM _) (by omega) g0
  have hm:cG=140737488355328:=rfl;have lt:(l.take i).length=i:=by rw [length_take,Nat.min_eq_left hi]
  have ld:(l.drop i).length=l.length-i:=length_drop;obtain ⟨a1,h1,p1,o1,f1,n1,_⟩:=o0.append iA oG (r12 H jG) (by omega) (bytes:=16) (by rw [hm,lt,length_nil];omega);simp only [p1,iZ];have q1:h1.get (h.next+1)=some (.cells [.str s]):=by rw [f1 _ (by omega) (by simp [cz])];exact g1
  have rs:Row encS 1 h1 (.slice (h.next+1) 0 1 1) [s]:=⟨rfl,by simp [iq,q1,encS]⟩
  have e1x:bA h h1:=⟨by have:=jG.next;omega,fun c hc=>by rw [f1 c (by omega) (by simp [cz];omega)];exact jG.get c hc⟩
  obtain ⟨a2,h2,p2,o2,f2,n2,_⟩:=o1.append iA oG rs (by omega) (bytes:=16) (by rw [hm,nil_append,lt];simp;omega);simp only [p2,iZ];have e2x:bA h h2:=⟨by have:=e1x.next;omega,fun c hc=>by rw [f2 c (by have:=e1x.next;omega) (fun hb=>by have:=o1.ge hb;omega)];exact e1x.get c hc⟩
  obtain ⟨a3,h3,p3,o3,f3,n3,_⟩:=o2.append iA oG (r14 h2 e2x) (by have:=e2x.next;omega) (bytes:=16) (by rw [hm,ld,nil_append,length_append,lt];simp;omega);simp only [p3,iZ];have e3x:bA h h3:=⟨by have:=e2x.next;omega,fun c hc=>by rw [f3 c (by have:=e2x.next;omega) (fun hb=>by have:=o2.ge hb;omega)];exact e2x.get c hc⟩
  refine hK a3 h3 e3x ?_;rw [he];have:=o3.C6 hk;rw [nil_append,append_assoc] at this;exact this
 have get:∀ (i:Nat) (x:b7),l[i]?=some x->∃ b,(∀ q:IntKind,dG 1 a (.int q (i:Int))=some (.ptr b (i*1)))/\ag none (.ptr b (i*1)) h=some (.str x):=fun i x hx=>by
  obtain ⟨b,_,_,h3,_,h5⟩:=o.get iA hx;exact ⟨b,h3,by have:=h5 0 (by omega);rw [Nat.add_zero] at this;rw [this];rfl⟩
 refine aD 0 l.length (zero_le _) (fun i e h'=>h'=h/\e 0=a/\e 1 = .str s/\e 5 = .int .i64 (i:Int)/\eL l s=l.take i++eL (l.drop i) s) ⟨rfl,rfl,rfl,rfl,rfl⟩ ?_ ?_
 ·rintro i e h' _ hi ⟨rfl,e0,e1,e5,ht⟩ K' hn hx hr hp;have hv:l[i]?=some l[i]:=eA hi;generalize l[i]=x at hv;obtain ⟨b,g1,g2⟩:=get i x hv;rw [IG hv] at ht;rw [F.er.aT];simp only [e0,e1,e5,o.len,aR,reduceAdd,reduceEqDiff,reduceIte,bh hi,g1,g2,Tm]
  cases hlt:strLt x s with
  |true=>
   rw [if_pos hlt] at ht;simp only [aK,aI hi hbig,aq];exact hn _ _ ⟨rfl,e0,e1,rfl,ht⟩
  |false=>
   rw [if_neg (by rw [hlt];decide)] at ht;simp only [aJ];rw [hx,F.er.aG];simp only [aR,reduceAdd,reduceEqDiff,reduceIte,e0,e1,e5,o.len,bh hi,g1,g2,aK,rA];by_cases Rb:x=s
   ·rw [if_pos Rb] at ht;simp only [fy Rb,aK];exact hK _ _ (bA.refl _) (by rw [ht];exact o)
   ·rw [if_neg Rb] at ht;simp only [eR Rb,aJ];have:=app i (Nat.le_of_lt hi) ht e e0 e1 e5;simp only [e0,e1,e5] at this;exact this
 ·rintro e h' ⟨rfl,e0,e1,e5,ht⟩ K' hx;rw [F.er.aT];simp only [e0,e5,o.len,aR,reduceAdd,reduceEqDiff,reduceIte,aW];rw [hx,F.er.aG];simp only [aR,reduceAdd,reduceEqDiff,reduceIte,e0,e1,e5,o.len,aW,aJ];have:=app l.length (dM _) (by rw [ht,drop_of_length_le (dM _)];rfl) e e0 e1 e5;simp only [e0,e1,e5] at this;exact this
structure jQ (es:List Entry) (ck:Nat):Prop where
 nodup:(es.map (·.2.2)).Nodup
 lt:∀ e ∈ es,e.2.2<ck
theorem jQ.nil(ck:Nat):jQ [] ck:=⟨nodup_nil,fun _ h=>by cases h⟩
theorem jQ.push(b:jQ es ck)(k v:AV):jQ (es++[(k,v,ck)]) (ck+1):=by
 refine ⟨?_,fun e he=>?_⟩
 ·rw [map_append,nodup_append];refine ⟨b.nodup,by simp,fun a ha c hc=>?_⟩;rw [mem_map] at ha;obtain ⟨e,he,rfl⟩:=ha;have:=b.lt e he;simp at hc;omega
 ·rw [mem_append] at he;rcases he with he|he
  ·have:=b.lt e he;omega
  ·simp at he;rw [he];exact lt_succ_self _
theorem II(es:List Entry)(i:Nat)(v:AV):(eY es i v).map (·.2.2)=es.map (·.2.2):=by
 unfold eY
 cases h:es[i]? with
 |none=>rfl
 |some e=>
  simp only [map_set];apply ext_getElem?;intro j;by_cases hj:i=j
  ·subst hj;have hi:=(kg.1 h).1;rw [getElem?_set_self (by simpa using hi),getElem?_map,h];rfl
  ·rw [getElem?_set_ne hj]
theorem jQ.set(b:jQ es ck)(i:Nat)(v:AV):jQ (eY es i v) ck:=by
 refine ⟨by rw [II];exact b.nodup,fun e he=>?_⟩;have:e.2.2 ∈ (eY es i v).map (·.2.2):=List.mem_map_of_mem he;rw [II,mem_map] at this;obtain ⟨e',XU,h⟩:=this;rw [<- h];exact b.lt e' XU
theorem vO{d:TypeDesc}{xA:List Entry}{GI:Nat}{k v:AV}(hb:h.get b=some (.map es ck))(hB:jQ es ck)(hu:eS d (.map b) k v h=some h')(hg:h'.get b=some (.map xA GI)):jQ xA GI:=by
 simp only [eS,hb] at hu;split at hu
 ·cases hu;rw [Heap.aN,if_pos rfl] at hg;cases hg;exact hB.set _ _
 ·cases hu;rw [Heap.aN,if_pos rfl] at hg;cases hg;exact hB.push k v
 ·cases hu
abbrev mF:=List (b7×AV)
def mF.find(m:mF)(k:b7):Option AV:=(List.find? (fun p=>k==p.1) m).map (·.2)
def mF.qX:mF->b7->AV->mF
 |[],k,v=>[(k,v)]
 |p :: m,k,v=>if k==p.1 then (p.1,v) :: m else p :: mF.qX m k v
def tG:List Entry->mF->Prop
 |[],[]=>True
 |e :: es,p :: m=>e.1 = .str p.1/\e.2.1=p.2/\tG es m
 |_,_=>False
theorem tG.jB{k:b7}:∀ {es:List Entry} {m:mF} (i:Nat),tG es m->∃ r,jB .string (.str k) es i=some r/\match r with
  |none=>m.find k=none
  |some (j,v)=>∃ n,j=i+n/\m.find k=some v/\∀ w,tG (eY es n w) (m.qX k w)
 |[],[],i,_=>⟨none,rfl,rfl⟩
 |e :: es,p :: m,i,⟨h1,h2,h3⟩=>by
  obtain ⟨ek,ev,en⟩:=e;simp only at h1 h2;subst h1;subst h2;by_cases hk:k=p.1
  ·subst hk;refine ⟨some (i,p.2),by simp [Go.AM.jB,vB],0,rfl,by simp [mF.find],fun w=>?_⟩;simp [eY,tG,mF.qX,h3]
  ·obtain ⟨r,hr,hm⟩:=tG.jB (k:=k) (i+1) h3;have VQ:(k==p.1)=false:=by simpa using hk
   refine ⟨r,by simp only [Go.AM.jB,vB,VQ,hr],?_⟩
   cases r with
   |none=>simpa [mF.find,hk] using hm
   |some jv=>
    obtain ⟨n,a,b,e⟩:=hm;refine ⟨n+1,by omega,by simpa [mF.find,hk] using b,fun w=>?_⟩;have:=e w;simp only [eY,getElem?_cons_succ,mF.qX,VQ] at this ⊢;split at this<;>simp_all [tG]
theorem tG.append{m:mF}(h:tG es m){k:b7}(hk:m.find k=none)(v:AV)(n:Nat):tG (es++[(.str k,v,n)]) (m.qX k v):=by
 induction es generalizing m with
 |nil=>cases m with
  |nil=>simp [tG,mF.qX]
  |cons p m=>exact h.elim
 |cons e es ih=>cases m with
  |nil=>exact h.elim
  |cons p m=>
   obtain ⟨h1,h2,h3⟩:=h;have hne:k≠p.1:=fun e=>by subst e;simp [mF.find] at hk
   have hk':mF.find m k=none:=by simpa [mF.find,hne] using hk
   have:=ih h3 hk';simp only [cons_append,mF.qX];rw [if_neg (by simpa using hne)];exact ⟨h1,h2,this⟩
theorem tI(o:Own encS 1 k h a l){x:b7}(hx:l[i]?=some x) :
  ∃ b,b<h.next/\(∀ q:IntKind,dG 1 a (.int q (i:Int))=some (.ptr b (i*1)))/\ag none (.ptr b (i*1)) h=some (.str x):=by
 obtain ⟨b,_,h2,h3,_,h5⟩:=o.get iA hx;exact ⟨b,h2,h3,by have:=h5 0 (by omega);rw [Nat.add_zero] at this;rw [this];rfl⟩
theorem yl{p:α->Bool}{l:List α}{a:α}(ha:l[i]?=some a)(ht:(l.take i).any p=false)(hp:p a=false):(l.take (i+1)).any p=false:=by
 rw [take_add_one,ha];simp [ht,hp]
theorem dx{k:Nat}{h:Heap}{a:AV}{l:List b7}{s:b7}(o:Own encS 1 k h a l)(hl:l.length<=cM){K:Out->Heap->Bool}(hK:K (.ret (.bool (l.any fun x=>x==s))) h=true):Sem TP 86 [a,.str s] h K:=by
 refine F.rR ?_;rw [F.sX];refine aD 0 l.length (zero_le _) (fun i e h'=>h'=h/\e 0=a/\e 1 = .str s/\e 5 = .int .i64 (i:Int)/\((l.take i).any fun x=>x==s)=false) ⟨rfl,rfl,rfl,rfl,rfl⟩ ?_ ?_
 ·rintro i e h' _ hi ⟨rfl,e0,e1,e5,ht⟩ K' hn hx hr hp;have hv:l[i]?=some l[i]:=eA hi;generalize l[i]=x at hv;obtain ⟨b,_,g1,g2⟩:=tI o hv;rw [F.dx.aT];simp only [e0,e1,e5,o.len,aR,reduceAdd,reduceEqDiff,reduceIte,bh hi,g1,g2]
  cases hq:x==s with
  |true=>
   simp only [aK];rw [hr,F.dx.bC];simp only [bK,reduceEqDiff,reduceIte];rw [List.any_eq_true.2 ⟨x,ig hv,hq⟩] at hK;exact hK
  |false=>
   simp only [aJ,aI hi hl,aq];exact hn _ _ ⟨rfl,e0,e1,rfl,yl hv ht hq⟩
 ·rintro e h' ⟨rfl,e0,e1,e5,ht⟩ K' hx;rw [F.dx.aT];simp only [e0,e5,o.len,aR,reduceAdd,reduceEqDiff,reduceIte,aW];rw [hx,F.dx.aG];rw [kf (dM _)] at ht;rw [ht] at hK;exact hK
theorem Own.push{enc:α->List AV}{l:List α}(o:Own enc sz k h a l)(he:∀ x,(enc x).length=sz)(h1:∀ x,bw (enc x)=true)(hk:k<=h.next){bytes:Nat}(hroom:(l.length+1)*bytes<=cG)(v:α) :
  ∃ a' h',b6 sz bytes a (.slice h.next 0 1 sz) (h.alloc (.cells (enc v)))=some (a',h')/\Own enc sz k h' a' (l++[v])/\(∀ c,c<h.next->cz a≠some c->h'.get c=h.get c)/\h.next<=h'.next/\(∀ h0,bA h0 h->h0.next<=k->bA h0 h')/\∀ c,cz a'=some c->h.next<=c:=by
 have g:=aB h (.cells (enc v));have hn:(h.alloc (.cells (enc v))).next=h.next+1:=Heap.aL h _
 have hx:bA h (h.alloc (.cells (enc v))):=bA.alloc _ _
 have r:Row enc sz (h.alloc (.cells (enc v))) (.slice h.next 0 1 sz) [v]:=by
  refine ⟨rfl,?_⟩;have hl:(enc v).length=sz:=he v;simp only [iq,g,if_true,length_singleton,Nat.one_mul,Nat.zero_add,hl,dM,drop_zero];rw [<- hl,take_length];simp
 obtain ⟨a',h',p,o',f,n,hf⟩:=(o.ext hx).append he h1 r (by omega) (bytes:=bytes) (by simpa using hroom);have f':∀ c,c<h.next->cz a≠some c->h'.get c=h.get c:=fun c hc hb=>by rw [f c (by omega) hb];exact hx.get c hc
 refine ⟨a',h',p,o',f',by omega,fun h0 e0 hk0=>⟨by have:=e0.next;omega,fun c hc=>?_⟩,fun c hc=>by have:=hf (by simp) c hc;omega⟩;rw [f' c (by have:=e0.next;omega) (fun hb=>by have:=o.ge hb;omega)];exact e0.get c hc
def nh(y:b7×Int):List AV:=[.str y.1,.int .i64 y.2]
theorem oI(y:b7×Int):(nh y).length=2:=rfl
theorem Pz(s:b7)(n:Int):iy [.str [],.int .i64 0] [(0,1),(1,1)] [.str s,.int .i64 n]=some (.agg (nh (s,n))):=rfl
theorem PA(y:b7×Int):fS [.str [],.int .i64 0] [(0,2)] [.agg (nh y)]=some (nh y):=rfl
theorem Own.KF{enc:α->List AV}{l:List α}(o:Own enc sz k h a l)(hf:∀ v,∀ x ∈ enc v,Fz true h x x):∃ x:Sl α,x.l=l/\Fz true h a (ak enc sz x):=by
 cases o with
 |nil=>exact ⟨none,rfl,.dP rfl⟩
 |row b l h1 h2 h3=>
  refine ⟨some l,rfl,.slice b 0 l.length sz _ _ h3 rfl fun i x y hx hy=>?_⟩;rw [hx] at hy;cases hy;have:=ig hx;rw [mem_flatMap] at this;obtain ⟨v,hv,RA⟩:=this;exact hf v x RA
theorem Own.kE{enc:α->List AV}{l:List α}(o:Own enc sz k h a l){d:Nat}(hd:d<k)(x:jV):Own enc sz k (h.set d x) a l:=by
 cases o with
 |nil=>exact .nil
 |row b _ w1 w2 w3=>exact .row b l w1 (by rw [Heap.bt];exact w2) (by rw [Heap.aN,if_neg (by omega)];exact w3)
theorem uI(m:eE)(k j:b7)(v:Int):(m.qX k v).find j=if j=k then some v else m.find j:=by
 induction m with
 |nil=>
  simp only [eE.qX,eE.find,find?_cons,find?_nil];by_cases h:j=k
  ·subst h;simp
  ·have:(j==k)=false:=by simpa using h
   rw [this,if_neg h]
 |cons p m ih=>
  simp only [eE.qX];by_cases hk:k=p.1
  ·rw [if_pos (by simpa using hk)];subst hk;simp only [eE.find,find?_cons];by_cases h:j=p.1
   ·subst h;simp
   ·have:(j==p.1)=false:=by simpa using h
    rw [this,if_neg h]
  ·rw [if_neg (by simpa using hk)];simp only [eE.find,find?_cons] at ih ⊢;by_cases h:j=p.1
   ·subst h;simp only [beq_self_eq_true,map_some];rw [if_neg (Ne.symm hk)]
   ·have:(j==p.1)=false:=by simpa using h
    rw [this];exact ih
theorem IJ(m:eE)(k:b7)(v:Int):(m.qX k v).map (·.1)=if k ∈ m.map (·.1) then m.map (·.1) else m.map (·.1)++[k]:=by
 induction m with
 |nil=>simp [eE.qX]
 |cons p m ih=>
  simp only [eE.qX];by_cases hk:k=p.1
  ·rw [if_pos (by simpa using hk)];subst hk;simp
  ·rw [if_neg (by simpa using hk),map_cons,ih];by_cases hm:k ∈ m.map (·.1)
   ·rw [if_pos hm,if_pos (by rw [map_cons];exact mem_cons_of_mem _ hm)];rfl
   ·rw [if_neg hm,if_neg (by rw [map_cons,mem_cons];exact fun h=>h.elim hk hm)];rfl
theorem FB(hm:(m.map (·.1)).Nodup)(k:b7)(v:Int):((m.qX k v).map (·.1)).Nodup:=by
 rw [IJ];split
 ·exact hm
 ·rename_i h;rw [nodup_append];exact ⟨hm,by simp,fun a ha b hb=>by simp at hb;subst hb;exact fun e=>h (e▸ha)⟩
theorem qs{k:b7}(h:m.find k=some v):(k,v) ∈ m:=by
 unfold eE.find at h;obtain ⟨p,hp,rfl⟩:=map_eq_some_iff.1 h;have h1:=mem_of_find?_eq_some hp;have h2:=find?_some hp;simp only [beq_iff_eq] at h2;subst h2;exact h1
theorem uJ(hm:(m.map (·.1)).Nodup){p:b7×Int}(hp:p ∈ m):m.find p.1=some p.2:=by
 induction m with
 |nil=>cases hp
 |cons q m ih=>
  rw [map_cons,nodup_cons] at hm;simp only [eE.find,find?_cons];rcases mem_cons.1 hp with rfl|hp
  ·simp
  ·have:(p.1==q.1)=false:=by
    simp only [beq_eq_false_iff_ne];exact fun e=>hm.1 (e▸List.mem_map_of_mem hp)
   rw [this];exact ih hm.2 hp
theorem j6.mem:∀ {es:List Entry} {m:eE},j6 es m->∀ e ∈ es,∃ p ∈ m,e.1 = .str p.1/\e.2.1 = .int .i64 p.2
 |[],_,_,e,he=>by cases he
 |e0 :: es,[],h,_,_=>h.elim
 |e0 :: es,p :: m,⟨h1,h2,h3⟩,e,he=>by
  rcases mem_cons.1 he with rfl|he
  ·exact ⟨p,mem_cons_self,h1,h2⟩
  ·obtain ⟨q,hq,r⟩:=j6.mem h3 e he;exact ⟨q,mem_cons_of_mem _ hq,r⟩
theorem mG{z v:AV}(h1:v.dy = [v])(hv:bw [v]=true):∃ h',aY 1 (.ptr h.next 0) v (h.alloc (.cells [z]))=some h'/\h'.get h.next=some (.cells [v])/\(∀ b,b≠h.next->h'.get b=h.get b)/\h'.next=h.next+1:=by
 refine ⟨_,by rw [cF (n:=1) (aB _ _) (by rw [h1];rfl) (by rw [h1];exact hv) (by simp),h1],?_,fun b hb=>?_,by rw [Heap.bt,Heap.aL]⟩
 ·rw [Heap.aN,if_pos rfl];rfl
 ·rw [Heap.aN,if_neg hb,Heap.aU,if_neg hb]
theorem rB{x s:b7}:∀ {l:List b7},x ∈ eL l s↔x ∈ l\/x=s
 |[]=>by simp [eL]
 |a :: l=>by
  rw [eL];split
  ·rw [mem_cons,rB (l:=l),mem_cons,_root_.or_assoc]
  ·split
   ·rename_i h;subst h;rw [mem_cons];exact ⟨fun h=>.inl h,fun h=>h.elim id .inl⟩
   ·rw [mem_cons];exact Or.comm
theorem Fz.KG{old:Bool}{v r:AV}(hr:r.scalar=true)(hf:Fz old h v r):v=r:=by
 cases hf<;>first|rfl|(simp [AV.scalar] at hr)
theorem Sem.aaT{P:Program}{f:FuncId}{args vK:List AV}{r:AV}(hr:r.scalar=true)(hs:Sem P f vK Heap.empty (pO r))(hp:lF true h args vK)(hK:K (.ret r) h=true):Sem P f args h K:=
 hs.VJ hp fun o h' ho=>by
  obtain ⟨v,rfl,hf⟩:=ct.1 ho;obtain rfl:=hf.KG hr;exact ⟨_,_,rfl,.scalar _ hr,hK⟩
theorem ym{old:Bool}(hb:h.get b=some (.cells (d.map iv))):Fz old h (.slice b 0 d.length 1) (ak encI 1 (some d)):=by
 refine .slice b 0 d.length 1 _ _ hb (by rw [tE]) fun i x y hx hy=>?_;rw [tE,hy] at hx;cases hx;rw [<- tE,getElem?_map] at hy;obtain ⟨v,hv,rfl⟩:=map_eq_some_iff.1 hy;exact .scalar _ rfl
theorem Own.lt{enc:α->List AV}{l:List α}(o:Own enc sz k h a l){c:Nat}(hc:cz a=some c):c<h.next:=by
 cases o with
 |nil=>cases hc
 |row b l h1 h2 h3=>cases hc;exact h2
theorem GZ[BEq α][LawfulBEq α]{l m:List α}{a b:α}(ha:l[i]?=some a)(hb:m[i]?=some b):(l.drop i==m.drop i)=((a==b)&&(l.drop (i+1)==m.drop (i+1))):=by
 have h1:=(kg.1 ha).1;have h2:=(kg.1 hb).1;rw [drop_eq_getElem_cons h1,drop_eq_getElem_cons h2];rw [eA h1] at ha;rw [eA h2] at hb;cases ha;cases hb;rfl
theorem eD{x y:Sl Int}(hx:x.l.length<=cM){h:Heap}{K:Out->Heap->Bool}(hK:K (.ret (.bool (x.l==y.l))) h=true):Sem TP 20 [ak encI 1 x,ak encI 1 y] h K:=by
 refine F.AP ?_;rw [F.Cz];simp only [aR,reduceAdd,reduceEqDiff,reduceIte,cw];by_cases hl:x.l.length=y.l.length
 ·simp only [fy (by omega:(x.l.length:Int)=(y.l.length:Int)),Bool.not_true,aJ];refine aD 0 x.l.length (zero_le _) (fun i e h'=>h'=h/\e 0=ak encI 1 x/\e 1=ak encI 1 y/\e 5 = .int .i64 (i:Int)/\(x.l==y.l)=(x.l.drop i==y.l.drop i)) ⟨rfl,rfl,rfl,rfl,rfl⟩ ?_ ?_
  ·rintro i e h' _ hi ⟨rfl,e0,e1,e5,ht⟩ K' hn fW hr hp;have Bz:i<y.l.length:=by omega
   have hv:x.l[i]?=some x.l[i]:=eA hi;have hw:y.l[i]?=some y.l[i]:=eA Bz;rw [GZ hv hw] at ht;generalize x.l[i]=a at hv ht;generalize y.l[i]=b at hw ht;rw [F.eD.aT];simp only [e0,e1,e5,aR,reduceAdd,reduceEqDiff,reduceIte,bh hi,aV x hi,aV y Bz,iV hv,iV hw]
   cases hq:a==b with
   |false=>
    simp only [Bool.not_false,aK];rw [hr,F.eD.bC];simp only [bK,reduceEqDiff,reduceIte];rw [ht,hq] at hK;exact hK
   |true=>
    simp only [Bool.not_true,aJ,aI hi hx,aq];exact hn _ _ ⟨rfl,e0,e1,rfl,by rw [ht,hq,Bool.true_and]⟩
  ·rintro e h' ⟨rfl,e0,e1,e5,ht⟩ K' fW;rw [F.eD.aT];simp only [e0,e5,aR,reduceAdd,reduceEqDiff,reduceIte,aW];rw [fW,F.eD.aG];rw [drop_of_length_le (dM _),drop_of_length_le (by omega)] at ht;rw [ht] at hK;exact hK
 ·simp only [eR (by omega:¬ (x.l.length:Int)=(y.l.length:Int)),Bool.not_false,aK]
  have:(x.l==y.l)=false:=by
   simp only [beq_eq_false_iff_ne];exact fun e=>hl (congrArg List.length e)
  rw [this] at hK;exact hK
theorem nP:∀ a:b7,strLt a a=false
 |[]=>rfl
 |x :: a=>by
  have:=nP a;unfold strLt at this ⊢;simp [Op.bytesLess,this]
theorem tJ:∀ {a b c:b7},strLt a b=true->strLt b c=true->strLt a c=true
 |_,[],_,h,_=>by unfold strLt at h;simp [Op.bytesLess] at h
 |_,_ :: _,[],_,h=>by unfold strLt at h;simp [Op.bytesLess] at h
 |[],_ :: _,_ :: _,_,_=>rfl
 |x :: a,y :: b,z :: c,h1,h2=>by
  have ih:=@tJ a b c;unfold strLt at h1 h2 ih ⊢;simp only [Op.bytesLess,or_eq_true,decide_eq_true_eq,and_eq_true,beq_iff_eq] at h1 h2 ⊢;rcases h1 with h1|⟨rfl,h1⟩<;>rcases h2 with h2|⟨rfl,h2⟩
  ·exact .inl (UInt8.lt_trans h1 h2)
  ·exact .inl h1
  ·exact .inl h2
  ·exact .inr ⟨rfl,ih h1 h2⟩
theorem zw:∀ {a b:b7},strLt a b=false->a≠b->strLt b a=true
 |[],[],_,h=>absurd rfl h
 |[],_ :: _,h,_=>by unfold strLt at h;simp [Op.bytesLess] at h
 |_ :: _,[],_,_=>rfl
 |x :: a,y :: b,h1,h2=>by
  have ih:=@zw a b;unfold strLt at h1 ih ⊢;simp only [Op.bytesLess,or_eq_false_iff,decide_eq_false_iff_not,and_eq_false_iff,beq_eq_false_iff_ne] at h1;simp only [Op.bytesLess,or_eq_true,decide_eq_true_eq,and_eq_true,beq_iff_eq];obtain ⟨h3,h4⟩:=h1;by_cases e:x=y
  ·subst e;rcases h4 with h4|h4
   ·exact absurd rfl h4
   ·exact .inr ⟨rfl,ih h4 (fun h=>h2 (by rw [h]))⟩
  ·refine .inl ?_;rcases UInt8.lt_or_lt_of_ne e with h|h
   ·exact absurd h h3
   ·exact h
theorem We:∀ {a b:b7},leB a b=true->a≠b->strLt a b=true:=fun {a b} h hne=>by
 cases hs:strLt a b with
 |true=>rfl
 |false=>
  exfalso
  have key:∀ {a b:b7},strLt b a=true->b<a:=by
   intro a
   induction a with
   |nil=>intro b h;unfold strLt at h;cases b<;>simp [Op.bytesLess] at h
   |cons x a ih=>
    intro b h
    cases b with
    |nil=>exact nil_lt_cons _ _
    |cons y b=>
     unfold strLt at h;simp only [Op.bytesLess,or_eq_true,decide_eq_true_eq,and_eq_true,beq_iff_eq] at h;rcases h with h|⟨rfl,h⟩
     ·exact cons_lt_cons_iff.2 (.inl h)
     ·exact cons_lt_cons_iff.2 (.inr ⟨rfl,ih h⟩)
  have h1:=key (zw hs hne);have h2:a<=b:=of_decide_eq_true h;exact absurd h1 (List.not_lt.2 h2)
def rS(l:List b7):Prop:=l.Pairwise fun a b=>strLt a b=true
theorem vQ:∀ {l m:List b7},rS l->rS m->(∀ x,x ∈ l↔x ∈ m)->l=m
 |[],[],_,_,_=>rfl
 |[],y :: m,_,_,h=>by have:=(h y).2 mem_cons_self;cases this
 |x :: l,[],_,_,h=>by have:=(h x).1 mem_cons_self;cases this
 |x :: l,y :: m,hl,hm,h=>by
  obtain ⟨l1,l2⟩:=pairwise_cons.1 hl;obtain ⟨m1,m2⟩:=pairwise_cons.1 hm
  have UO:x=y:=by
   rcases mem_cons.1 ((h x).1 mem_cons_self) with e|e
   ·exact e
   ·rcases mem_cons.1 ((h y).2 mem_cons_self) with e'|e'
    ·exact e'.symm
    ·have:=tJ (m1 x e) (l1 y e');rw [nP] at this;cases this
  subst UO;rw [vQ l2 m2 fun z=>?_];constructor
  ·intro hz;rcases mem_cons.1 ((h z).1 (mem_cons_of_mem _ hz)) with e|e
   ·subst e;have:=l1 z hz;rw [nP] at this;cases this
   ·exact e
  ·intro hz;rcases mem_cons.1 ((h z).2 (mem_cons_of_mem _ hz)) with e|e
   ·subst e;have:=m1 z hz;rw [nP] at this;cases this
   ·exact e
theorem vR:∀ {l:List b7},rS l->∀ s,rS (eL l s)
 |[],_,s=>pairwise_singleton _ _
 |x :: l,h,s=>by
  obtain ⟨h1,h2⟩:=pairwise_cons.1 h;rw [eL];split
  ·rename_i hx;refine pairwise_cons.2 ⟨fun y hy=>?_,vR h2 s⟩;rcases rB.1 hy with hy|rfl
   ·exact h1 y hy
   ·exact hx
  ·rename_i hx;split
   ·exact h
   ·rename_i hne;have hsx:strLt s x=true:=zw (by simpa using hx) hne;refine pairwise_cons.2 ⟨fun y hy=>?_,h⟩;rcases mem_cons.1 hy with rfl|hy
    ·exact hsx
    ·exact tJ hsx (h1 y hy)
theorem FC{ck:Nat}:∀ {es:List Entry},(∀ e ∈ es,(∃ s,e.1 = .str s/\s.length<=1000)/\e.2.2<ck)->(es.map keyBytes).Nodup->(es.map (·.2.2)).Nodup->rf ck es=true
 |[],_,_,_=>rfl
 |e :: es,h,h1,h2=>by
  rw [map_cons,nodup_cons] at h1 h2;obtain ⟨⟨s,hs,hl⟩,hc⟩:=h e mem_cons_self;have ih:=FC (ck:=ck) (es:=es) (fun f hf=>h f (mem_cons_of_mem _ hf)) h1.2 h2.2;have hb:ble s.length 140737488351232=true:=ble_eq_true_of_le (by omega);have Ee:ble (e.2.2+1) ck=true:=ble_eq_true_of_le hc
  have lI:es.all (fun f=>!(keyBytes e==keyBytes f)&&!(Nat.beq e.2.2 f.2.2))=true:=by
   rw [List.all_eq_true];intro f hf
   have q1:(keyBytes e==keyBytes f)=false:=by
    simp only [beq_eq_false_iff_ne];exact fun q=>h1.1 (by rw [q];exact List.mem_map_of_mem hf)
   have q2:Nat.beq e.2.2 f.2.2=false:=by
    cases hq:Nat.beq e.2.2 f.2.2 with
    |false=>rfl
    |true=>exact absurd (by rw [eq_of_beq_eq_true hq];exact List.mem_map_of_mem hf) h2.1
   rw [q1,q2];rfl
  simp only [rf,hs,isStr,hb,Ee,lI,ih,Bool.and_self]
theorem keys_map{M:Nat}(hK:K (.ret (.func 106 [] [.ptr h.next 0])) (h.alloc (.box (.map M)))=true):Sem TP 62 [.map M] h K:=
 qj.UD (f:=62) (g:=Mc 106) rfl hK
theorem KH{M:Nat}(hb:h.get b=some (.box (.map M)))(hM:h.get M=some (.map es ck))(kV:rf ck es=true)(hlen:es.length<=1000000)
  (hK:∀ a h',bA h h'->Own encS 1 h.next h' a (qd (es.map keyBytes))->K (.ret a) h'=true):Sem TP 61 [.func 106 [] [.ptr b 0]] h K:=by
 refine qj.UD (f:=61) (g:=uD 106) rfl ?_;have hl:ble (es.length*16) 140737488355328=true:=ble_eq_true_of_le (by omega)
 have h2:uD 106 [.func 106 [] [.ptr b 0]] h K=true:=by
  simp only [uD,hb,hM,kV,hl,Bool.true_and];rw [show Nat.beq 106 106=true from rfl,Bool.true_and];generalize qd (es.map keyBytes)=ns at hK ⊢
  cases ns with
  |nil=>exact hK _ _ (bA.refl _) .nil
  |cons k ks=>
   have e:(k :: ks).map AV.str=(k :: ks).flatMap encS:=by
    generalize (k :: ks)=l
    induction l with
    |nil=>rfl
    |cons x l ih=>rw [map_cons,flatMap_cons,ih];rfl
   refine hK _ _ (bA.alloc _ _) ?_;rw [e];exact .row _ (k :: ks) (dM _) (lt_succ_self _) (aB _ _)
 exact h2
theorem G0(hn:l.Nodup):rS (qd l)/\∀ x,x ∈ qd l↔x ∈ l:=by
 refine ⟨?_,fun x=>(oD l).mem_iff⟩;have h1:=ri l;have h2:(qd l).Nodup:=(oD l).nodup_iff.2 hn;unfold rS;unfold List.Nodup at h2;exact (h1.and h2).imp fun {a b} h=>We h.1 h.2
theorem tK(hb:h.get b=some (.map es ck))(hm:j6 es m)(k:b7) :
  dU .string (.int .i64 0) false (.map b) (.str k) h=some (.int .i64 ((m.find k).getD 0)):=by
 obtain ⟨r,hr,uC⟩:=j6.jB (k:=k) 0 hm;simp only [dU,lJ,hb,pY,pX,if_true,hr]
 cases r with
 |none=>simp at uC;simp [uC]
 |some jv=>
  obtain ⟨n,q,_,b,c,_⟩:=uC;obtain ⟨j,v⟩:=jv;simp only at c;subst c;simp [b]
theorem Mi:∀ {es:List Entry} {m:eE},j6 es m->es.map keyBytes=m.map (·.1)
 |[],[],_=>rfl
 |e :: es,p :: m,⟨h1,_,h3⟩=>by
  obtain ⟨ek,ev⟩:=e;simp only at h1;subst h1;rw [map_cons,map_cons,Mi h3];rfl
end
end Go.AM
namespace Go.AM
open List Nat Bool Option
open Go Go.Proofs
noncomputable section
variable {K:Out->Heap->Bool} {h h':Heap} {hs ks o:List b7} {D:b7->Option (Nat×List Bool)} {n k M V base S b B sz j N0 N1 N4 P3 P5 P6 PL:Nat} {lv:ew.Lv} {vs:List Int} {s nm:b7} {i0 v:Int} {g ng:FuncId} {α σ:Type} {p:Nat×List Bool} {a cW lW:AV} {x xs:Sl b7} {d:List Bool} {ga gb na nb:List AV}
theorem uK{enc:α->List AV}(he:∀ a,(enc a).length=sz)(x:Sl α)(h:Heap):Row enc sz h (ak enc sz x) x.l:=by
 cases x with
 |none=>exact ⟨rfl,rfl⟩
 |some l=>
  refine ⟨rfl,?_⟩;have hl:(l.flatMap enc).length=l.length*sz:=fH he l;simp only [ak,iq,Sl.Ku,Nat.zero_add,hl,beq_self_eq_true,dM,decide_true,Bool.and_self,if_true,drop_zero];rw [<- hl,take_length]
structure eO where
 kind:Int
 neg:Bool
 name:b7
 args:Sl b7
structure aO where
 name:b7
 args:Sl b7
 body:Sl eO
def bM(c:eO):List AV:=[.int .i64 c.kind,.bool c.neg,.str c.name,ak encS 1 c.args]
def iD(nm:b7)(xs:Sl b7):List AV:=[.str nm,ak encS 1 xs]
def aP(r:aO):List AV:=[.str r.name,ak encS 1 r.args,ak bM 4 r.body]
theorem iu(c:eO):(bM c).length=4:=rfl
theorem gv(r:aO):(aP r).length=3:=rfl
theorem wM(c:eO):AV.cN (bM c)=true:=by simp [bM,AV.cN,AV.pure,cc j5]
theorem fN(r:aO):AV.cN (aP r)=true:=by simp [aP,AV.cN,AV.pure,cc j5,cc wM]
theorem zx(nm:b7)(xs:Sl b7):bw (iD nm xs)=true:=by
 unfold iD;simp only [bw,fZ,Bool.and_true];rfl
theorem iw(c:eO):bw (bM c)=true:=by
 unfold bM;simp only [bw,fZ,Bool.and_true];rfl
theorem j9(r:aO):bw (aP r)=true:=by
 unfold aP;simp only [bw,fZ,Bool.and_true];rfl
def eO.ok(c:eO):Prop:=c.name.length<=cM/\c.args.l.length<=cM/\∀ s ∈ c.args.l,s.length<=cM
def aO.ok(r:aO):Prop:=r.name.length<=cM/\r.args.l.length<=cM/\(∀ s ∈ r.args.l,s.length<=cM)/\r.body.l.length<=cM/\∀ c ∈ r.body.l,c.ok
theorem Mj(a b c d:AV):iX (some 2) [a,b,c,d] 2=some (.agg [c,d]):=rfl
theorem Mk(a b c:AV):iX (some 2) [a,b,c] 0=some (.agg [a,b]):=rfl
theorem G1(a b c d:AV):iX (some 4) [a,b,c,d] 0=some (.agg [a,b,c,d]):=rfl
theorem rC(a b c:AV):iX (some 3) [a,b,c] 0=some (.agg [a,b,c]):=rfl
theorem jq{i:Nat}{v:b7}(hv:x.l[i]?=some v):ag none (.dO (x.l.flatMap encS) (i*1)) h=some (.str v):=by
 rw [wz iA hv];rfl
theorem EL(hx:x.l.length<=cM){a b:List AV}{p:b7->Bool}(hp:∀ (v:b7) (K:Out->Heap->Bool),K (.ret (.bool (p v))) h=true->Sem TP g (a++([.str v]++b)) h K)
  (hK:∀ n:Int,decide (0<=n)=x.l.any p->K (.ret (.int .i64 n)) h=true):Sem TP 184 [ak encS 1 x,.func g a b] h K:=by
 refine F.kD ?_;rw [F.kL];simp only [aR,reduceAdd,reduceEqDiff,reduceIte];refine aD 0 x.l.length (zero_le _) (fun i e h'=>h'=h/\e 0=ak encS 1 x/\e 1 = .func g a b/\e 7 = .int .i64 (x.l.length:Int)/\e 8 = .int .i64 (i:Int)/\(x.l.take i).any p=false) ⟨rfl,rfl,rfl,rfl,rfl,rfl⟩ ?_ ?_
 ·rintro i e h' _ hi ⟨rfl,e0,e1,e7,e8,ht⟩ K' hn fW hr B6;have hv:x.l[i]?=some x.l[i]:=eA hi;rw [F.bz.aT];simp only [e0,e1,e7,e8,aR,reduceAdd,reduceEqDiff,reduceIte,bh hi,aV x hi,jq hv,fA];refine ah (hp _ _ ?_);simp only [aR,reduceAdd,reduceEqDiff,reduceIte]
  cases hq:p x.l[i] with
  |true=>
   simp only [aK];rw [hr,F.bz.bC];refine hK (i:Int) ?_;rw [fy (by omega:(0:Int)<=(i:Int))];exact (List.any_eq_true.2 ⟨_,ig hv,hq⟩).symm
  |false=>
   simp only [aJ,aI hi hx,aq];exact hn _ _ ⟨rfl,e0,e1,e7,rfl,by rw [take_add_one,hv,any_append,ht];simp [hq]⟩
 ·rintro e h' ⟨rfl,e0,e1,e7,e8,ht⟩ K' fW;rw [F.bz.aT];simp only [e0,e1,e7,e8,aR,reduceAdd,reduceEqDiff,reduceIte,aW];rw [fW,F.bz.aG];rw [kf (dM _)] at ht;exact hK (-1) (by rw [ht];rfl)
theorem zy(hx:x.l.length<=cM){a b:List AV}{p:b7->Bool}(hp:∀ (v:b7) (K:Out->Heap->Bool),K (.ret (.bool (p v))) h=true->Sem TP g (a++([.str v]++b)) h K)
  (hK:K (.ret (.bool (x.l.any p))) h=true):Sem TP 167 [ak encS 1 x,.func g a b] h K:=by
 refine F.jF ?_;rw [F.jN];refine ah (EL hx hp fun n hn=>?_);simp only [aR,reduceAdd,reduceEqDiff,reduceIte];rw [hn];exact hK
theorem G2(hK:K (.ret (.bool (!ef s))) h=true):Sem TP 168 [.str s] h K:=by
 refine F.zh ?_;rw [F.AU];refine ah (dQ ?_);simp only [aR,reduceAdd,reduceEqDiff,reduceIte];exact hK
theorem Tn(p:α->Bool)(l:List α):(!(l.any fun x=>!p x))=l.all p:=by
 induction l with
 |nil=>rfl
 |cons a l ih=>rw [any_cons,all_cons,<- ih];cases p a<;>simp
theorem To(p:α->Bool):∀ (l:List α) (h:l.length=2),l.all p=(p (l[0]'(by omega))&&p (l[1]'(by omega)))
 |[a,b],_=>by simp
def mj(nm:b7)(xs:List b7):Bool:=ef nm&&(decide (xs.length<=12)&&xs.all ef)
theorem C7(hx:xs.l.length<=cM)(hK:K (.ret (.bool (mj nm xs.l))) h=true):Sem TP 138 [.agg [.str nm,ak encS 1 xs]] h K:=by
 refine Sem.data (r:=.bool (mj nm xs.l)) ?_ (by simp [AV.cN,AV.pure,cc j5]) hK;clear hK;refine F.CD ?_;rw [F.Er];have g0:(Heap.alloc Heap.empty (.cells (iD nm xs))).get 0=some (.cells (iD nm xs)):=aB _ _;have hb:eX (.agg [.str nm,ak encS 1 xs])=some (iD nm xs):=cY (zx nm xs);simp only [hb,aq,bT];generalize (Heap.alloc Heap.empty (.cells (iD nm xs)))=H at g0 ⊢;have fin:∀ b:Bool,b=mj nm xs.l->pO (.bool (mj nm xs.l)) (.ret (.bool b)) H=true:=fun b hb=>by rw [hb];exact fY rfl
 simp only [aR,reduceAdd,reduceEqDiff,reduceIte,aj g0,iD];refine ah (dQ ?_);simp only [aR,reduceAdd,reduceEqDiff,reduceIte]
 cases hn:ef nm with
 |false=>simp only [aJ];exact fin _ (by simp [mj,hn])
 |true=>
  simp only [aK,aR,reduceAdd,reduceEqDiff,reduceIte,aj g0,iD];by_cases IK:xs.l.length<=12
  ·simp only [fy (by omega:(xs.l.length:Int)<=12),aK,aR,reduceAdd,reduceEqDiff,reduceIte,aj g0,iD];refine ah (zy hx (p:=fun s=>!ef s) (fun v K hK=>G2 hK) ?_);simp only [aR,reduceAdd,reduceEqDiff,reduceIte];exact fin _ (by rw [Tn];simp [mj,hn,IK])
  ·simp only [eR (by omega:¬ (xs.l.length:Int)<=12),aJ];exact fin _ (by simp [mj,IK])
def gG(c:eO):Bool:=if c.kind=0 then mj c.name c.args.l else if c.kind=1\/c.kind=2 then decide (c.name = [])&&(decide (c.args.l.length=2)&&c.args.l.all ef) else false
theorem fU{c:eO}(hc:c.ok){h:Heap}{K:Out->Heap->Bool}(hK:K (.ret (.bool (gG c))) h=true):Sem TP 140 [.agg [.int .i64 c.kind,.bool c.neg,.str c.name,ak encS 1 c.args]] h K:=by
 refine Sem.data (r:=.bool (gG c)) ?_ (by simp [AV.cN,AV.pure,cc j5]) hK;clear hK;refine F.va ?_;rw [F.wD];have g0:(Heap.alloc Heap.empty (.cells (bM c))).get 0=some (.cells (bM c)):=aB _ _;have hb:eX (.agg [.int .i64 c.kind,.bool c.neg,.str c.name,ak encS 1 c.args])=some (bM c):=cY (iw c);simp only [hb,aq,bT];generalize (Heap.alloc Heap.empty (.cells (bM c)))=H at g0 ⊢;have fin:∀ b:Bool,b=gG c->pO (.bool (gG c)) (.ret (.bool b)) H=true:=fun b hb=>by rw [hb];exact fY rfl
 generalize pO (.bool (gG c))=R at fin ⊢;simp only [aR,reduceAdd,reduceEqDiff,reduceIte,aj g0,bM,cw,Mj];by_cases k0:c.kind=0
 ·simp only [fy k0,aK];refine ah (C7 hc.2.1 ?_);simp only [aR,reduceAdd,reduceEqDiff,reduceIte];exact fin _ (by simp [gG,k0])
 simp only [eR k0,aJ]
 have J:∀ (e:Env) (b:Bool),e 1 = .ptr 0 0->e 10 = .bool b->(b=true↔(c.kind=1\/c.kind=2))->F.fU.J0 R ⟨e,40,[],H⟩=true:=by
  intro e b e1 kF hb;rw [F.fU.CE];simp only [e1,kF,aR,reduceAdd,reduceEqDiff,reduceIte]
  cases b with
  |false=>
   simp only [aJ];have:¬ (c.kind=1\/c.kind=2):=fun h=>by have:=hb.2 h;cases this
   exact fin _ (by simp [gG,k0,this])
  |true=>
   have hk:=hb.1 rfl;have Oq:gG c=(decide (c.name = [])&&(decide (c.args.l.length=2)&&c.args.l.all ef)):=by simp only [gG,if_neg k0,if_pos hk]
   rw [Oq] at fin;simp only [aK,aR,reduceAdd,reduceEqDiff,reduceIte,aj g0,bM,rA];by_cases hn:c.name = []
   ·simp only [fy hn,aK,aR,reduceAdd,reduceEqDiff,reduceIte,aj g0,bM,cw];by_cases h2:c.args.l.length=2
    ·simp only [fy (by omega:(c.args.l.length:Int)=2),aK,aR,reduceAdd,reduceEqDiff,reduceIte,aj g0,bM];have v0:c.args.l[0]?=some c.args.l[0]:=eA (by omega);have v1:c.args.l[1]?=some c.args.l[1]:=eA (by omega);have lI:c.args.l.all ef=(ef c.args.l[0]&&ef c.args.l[1]):=To ef _ h2;have i0:=aV (enc:=encS) (sz:=1) (k:=.i64) c.args (i:=0) (by omega);have i1:=aV (enc:=encS) (sz:=1) (k:=.i64) c.args (i:=1) (by omega);have l0:=fun h=>jq (x:=c.args) v0 (h:=h);have l1:=fun h=>jq (x:=c.args) v1 (h:=h);simp only [show ((0:Nat):Int)=0 from rfl,show ((1:Nat):Int)=1 from rfl] at i0 i1;simp only [i0,i1,l0,l1,aR,reduceAdd,reduceEqDiff,reduceIte];refine ah (dQ ?_);simp only [aR,reduceAdd,reduceEqDiff,reduceIte];rw [lI] at fin
     cases n0:ef c.args.l[0] with
     |false=>simp only [aJ];exact fin _ (by simp [n0])
     |true=>
      simp only [aK,aR,reduceAdd,reduceEqDiff,reduceIte,aj g0,bM,i0,i1,l0,l1];refine ah (dQ ?_);simp only [aR,reduceAdd,reduceEqDiff,reduceIte];exact fin _ (by simp [n0,hn,h2])
    ·simp only [eR (by omega:¬ (c.args.l.length:Int)=2),aJ];exact fin _ (by simp [h2])
   ·simp only [eR hn,aJ];exact fin _ (by simp [hn])
 by_cases k1:c.kind=1
 ·simp only [fy k1,aK];exact J _ true rfl rfl (by simp [k1])
 ·simp only [eR k1,aJ];exact J _ (decide (c.kind=2)) rfl rfl (by simp [k1])
theorem Nt{l:List b7}(o:Own encS 1 k h a l)(hl:l.length<=cM)
  (hK:∀ n:Int,decide (0<=n)=(l.any fun x=>s==x)->K (.ret (.int .i64 n)) h=true):Sem TP 145 [a,.str s] h K:=by
 refine F.iC ?_;rw [F.iN];simp only [o.len,aR,reduceAdd,reduceEqDiff,reduceIte];refine aD 0 l.length (zero_le _) (fun i e h'=>h'=h/\e 0=a/\e 1 = .str s/\e 7 = .int .i64 (l.length:Int)/\e 8 = .int .i64 (i:Int)/\((l.take i).any fun x=>s==x)=false) ⟨rfl,rfl,rfl,rfl,rfl,rfl⟩ ?_ ?_
 ·rintro i e h' _ hi ⟨rfl,e0,e1,e7,e8,ht⟩ K' hn fW hr B6;have hv:l[i]?=some l[i]:=eA hi;generalize l[i]=x at hv;obtain ⟨b,_,g1,g2⟩:=tI o hv;rw [F.bB.aT];simp only [e0,e1,e7,e8,aR,reduceAdd,reduceEqDiff,reduceIte,bh hi,g1,g2]
  cases hq:s==x with
  |true=>
   simp only [aK];rw [hr,F.bB.bC];refine hK (i:Int) ?_;rw [fy (by omega:(0:Int)<=(i:Int))];exact (List.any_eq_true.2 ⟨_,ig hv,hq⟩).symm
  |false=>
   simp only [aJ,aI hi hl,aq];exact hn _ _ ⟨rfl,e0,e1,e7,rfl,yl hv ht hq⟩
 ·rintro e h' ⟨rfl,e0,e1,e7,e8,ht⟩ K' fW;rw [F.bB.aT];simp only [e0,e1,e7,e8,aR,reduceAdd,reduceEqDiff,reduceIte,aW];rw [fW,F.bB.aG];rw [kf (dM _)] at ht;exact hK (-1) (by rw [ht];rfl)
theorem G3{l:List b7}(o:Own encS 1 k h a l)(hl:l.length<=cM)
  (hK:K (.ret (.bool (l.any fun x=>s==x))) h=true):Sem TP 143 [a,.str s] h K:=by
 refine F.kM ?_;rw [F.k8];refine ah (Nt o hl fun n hn=>?_);simp only [aR,reduceAdd,reduceEqDiff,reduceIte];rw [hn];exact hK
def C8(o:List b7)(s:b7):List b7:=if (o.any fun x=>s==x)=true then o else o++[s]
def eM(o l:List b7):List b7:=l.foldl C8 o
theorem An{l:List b7}{i:Nat}(hs:l[i]?=some s):eM o (l.take (i+1))=C8 (eM o (l.take i)) s:=by
 unfold eM;rw [take_add_one,hs];simp
theorem PC(o:List b7)(s:b7):(C8 o s).length<=o.length+1:=by
 unfold C8;split<;>simp
theorem oJ:∀ (l o:List b7),(eM o l).length<=o.length+l.length
 |[],o=>dM _
 |s :: l,o=>by
  have h1:=oJ l (C8 o s);have h2:=PC o s;show (eM (C8 o s) l).length<=_;rw [length_cons];omega
theorem tL{enc:α->List AV}{l:List α}(o:Own enc sz k h a l):a.dy = [a]/\bw [a]=true:=by
 cases o<;>exact ⟨rfl,rfl⟩
theorem Nu{enc:α->List AV}{b:AV}{l:List α}(o:Own enc sz k h a l)(hV:h.get V=some (.cells [b])):aY 1 (.ptr V 0) a h=some (h.set V (.cells [a])):=by
 obtain ⟨h1,h2⟩:=tL o;rw [cF (n:=1) hV (by rw [h1];rfl) (by rw [h1];exact h2) (by simp),h1];rfl
theorem UP(s:b7):fS [.str []] [(0,1)] [.str s]=some (encS s):=rfl
theorem Ao{l:List b7}(hV:h.get V=some (.cells [a]))(hVk:V<k)(o:Own encS 1 k h a l)(hk:k<=h.next)(hlen:l.length+xs.l.length<=100000000)
  (hK:∀ a' h',h'.get V=some (.cells [a'])->Own encS 1 k h' a' (eM l xs.l)->(∀ c,c<k->c≠V->h'.get c=h.get c)->h.next<=h'.next->K (.ret (.tuple [])) h'=true):Sem TP 142 [ak encS 1 xs,.ptr V 0] h K:=by
 refine F.rZ ?_;rw [F.sY];simp only [aR,reduceAdd,reduceEqDiff,reduceIte]
 refine aD 0 xs.l.length (zero_le _) (fun i e h'=>∃ a',h'.get V=some (.cells [a'])/\Own encS 1 k h' a' (eM l (xs.l.take i))/\(∀ c,c<k->c≠V->h'.get c=h.get c)/\h.next<=h'.next /\
  e 1 = .ptr V 0/\e 5=ak encS 1 xs/\e 6 = .int .i64 (xs.l.length:Int)/\e 7 = .int .i64 (i:Int)) ⟨a,hV,by simpa [eM] using o,fun _ _ _=>rfl,dM _,rfl,rfl,rfl,rfl⟩ ?_ ?_
 ·rintro i e h' _ hi ⟨a',gV,o',fr,DZ,e1,e5,e6,e7⟩ K' hn hx hr hp;have hv:xs.l[i]?=some xs.l[i]:=eA hi;generalize xs.l[i]=s at hv
  have hlb:(eM l (xs.l.take i)).length<=100000000:=by
   have h1:=oJ (xs.l.take i) l;have h2:=length_take_le i xs.l;omega
  rw [F.dL.aT];simp only [e1,e5,e6,e7,aR,reduceAdd,reduceEqDiff,reduceIte,bh hi,aV xs hi,jq hv,aj gV];refine ah (G3 o' (by unfold cM;omega) ?_);simp only [aR,reduceAdd,reduceEqDiff,reduceIte];have ki:=An (o:=l) hv;unfold C8 at ki
  cases hq:(eM l (xs.l.take i)).any fun x=>s==x with
  |true=>
   rw [hq,if_pos rfl] at ki;simp only [Bool.not_true,aJ,aI hi (show xs.l.length<=cM by unfold cM;omega),aq];exact hn _ _ ⟨a',gV,by rw [ki];exact o',fr,DZ,e1,e5,e6,rfl⟩
  |false=>
   rw [hq,if_neg (by simp)] at ki;obtain ⟨a2,h2,p1,p2,p3,p4,p5,p6⟩:=o'.push iA oG (by omega) (bytes:=16) (by unfold cG;omega) s
   have gV2:h2.get V=some (.cells [a']):=by
    rw [p3 V (by omega) (fun hb=>by have:=o'.ge hb;omega)];exact gV
   have iG:=Nu p2 gV2;simp only [Bool.not_false,aK,e1,aj gV,aR,reduceAdd,reduceEqDiff,reduceIte,UP,p1,iG,aI hi (show xs.l.length<=cM by unfold cM;omega)];refine hn _ _ ⟨a2,by rw [Heap.aN,if_pos rfl],by rw [ki];exact p2.kE hVk _,fun c hc hcV=>?_,by rw [Heap.bt];omega,e1,e5,e6,rfl⟩;rw [Heap.aN,if_neg hcV,p3 c (by omega) (fun hb=>by have:=o'.ge hb;omega),fr c hc hcV]
 ·rintro e h' ⟨a',gV,o',fr,DZ,e1,e5,e6,e7⟩ K' hx;rw [F.dL.aT];simp only [e6,e7,aR,reduceAdd,reduceEqDiff,reduceIte,aW];rw [hx,F.dL.aG];rw [kf (dM _)] at o';exact hK a' h' gV o' fr DZ
def jR(o:List b7)(cs:List eO):List b7:=cs.foldl (fun o c=>eM o c.args.l) o
def varsOf(r:aO):List b7:=jR (eM [] r.args.l) r.body.l
def aO.mc(r:aO):Prop:=r.args.l.length<=1500/\r.body.l.length<=1500/\∀ c ∈ r.body.l,c.args.l.length<=1500
theorem EM{cs:List eO}{i:Nat}{c:eO}(hc:cs[i]?=some c):jR o (cs.take (i+1))=eM (jR o (cs.take i)) c.args.l:=by
 unfold jR;rw [take_add_one,hc];simp
theorem yo:∀ (cs:List eO) (o:List b7),(∀ c ∈ cs,c.args.l.length<=1500)->(jR o cs).length<=o.length+cs.length*1500
 |[],o,_=>by simp [jR]
 |c :: cs,o,h=>by
  have h1:=yo cs (eM o c.args.l) fun d hd=>h d (mem_cons_of_mem _ hd);have h2:=oJ c.args.l o;have h3:=h c mem_cons_self;show (jR (eM o c.args.l) cs).length<=_;rw [length_cons];omega
theorem IL{r:aO}(hf:r.mc)(i:Nat):(jR (eM [] r.args.l) (r.body.l.take i)).length<=3000000:=by
 have h1:=yo (r.body.l.take i) (eM [] r.args.l) fun c hc=>hf.2.2 c (mem_of_mem_take hc);have h2:=oJ r.args.l [];have h3:=length_take_le i r.body.l;have h4:=length_take_le' i r.body.l;have:=hf.1;have:=hf.2.1;simp only [length_nil] at h2;omega
theorem di{r:aO}(hf:r.mc){h:Heap}{K:Out->Heap->Bool}(hK:∀ x:Sl b7,x.l=varsOf r->K (.ret (ak encS 1 x)) h=true) :
  Sem TP 100 [.agg [.str r.name,ak encS 1 r.args,ak bM 4 r.body]] h K:=by
 have main:Sem TP 100 [.agg [.str r.name,ak encS 1 r.args,ak bM 4 r.body]] Heap.empty (fun o h'=>yes (∃ v,∃ x:Sl b7,o = .ret v/\x.l=varsOf r/\Fz true h' v (ak encS 1 x))):=by
  refine F.u9 ?_;rw [F.wC];have hb:eX (.agg [.str r.name,ak encS 1 r.args,ak bM 4 r.body])=some (aP r):=cY (j9 r);simp only [hb,aq,bT,Heap.aL];have g0:(Heap.alloc (Heap.alloc Heap.empty (.cells (aP r))) (.cells [.ax])).get 0=some (.cells (aP r)):=by simp [Heap.aU,bT]
  have g1:(Heap.alloc (Heap.alloc Heap.empty (.cells (aP r))) (.cells [.ax])).get 1=some (.cells [.ax]):=by simp [Heap.aU,bT]
  have gn:(Heap.alloc (Heap.alloc Heap.empty (.cells (aP r))) (.cells [.ax])).next=2:=rfl
  generalize (Heap.alloc (Heap.alloc Heap.empty (.cells (aP r))) (.cells [.ax]))=H at g0 g1 gn ⊢;simp only [aR,reduceAdd,reduceEqDiff,reduceIte,aj g0,aP];refine ah (Ao g1 (by omega) (Own.nil (k:=2)) (by omega) (by have:=hf.1;simp only [length_nil];omega) fun a h1 q1 q2 q3 q4=>?_);have Tp:h1.get 0=some (.cells (aP r)):=by rw [q3 0 (by omega) (by omega)];exact g0
  simp only [aR,reduceAdd,reduceEqDiff,reduceIte,aj Tp,aP]
  refine aD 0 r.body.l.length (zero_le _) (fun i e h'=>∃ a',h'.get 1=some (.cells [a'])/\Own encS 1 2 h' a' (jR (eM [] r.args.l) (r.body.l.take i))/\2<=h'.next /\
   e 3 = .ptr 1 0/\e 4 = .func 142 [] [.ptr 1 0]/\e 14=ak bM 4 r.body/\e 15 = .int .i64 (r.body.l.length:Int)/\e 16 = .int .i64 (i:Int)) ⟨a,q1,by simpa [jR] using q2,by omega,rfl,rfl,rfl,rfl,rfl⟩ ?_ ?_
  ·rintro i e h' _ hi ⟨a',gV,o',DZ,e3,e4,oK,nQ,e16⟩ K' hn hx hr hp;have hv:r.body.l[i]?=some r.body.l[i]:=eA hi;generalize r.body.l[i]=c at hv;have aed:=hf.2.2 c (ig hv);obtain ⟨H2,hs,k1,ko,kn⟩:=cu (h:=h') (zs:=[.int .i64 0,.bool false,.str [],.ax]) (cs:=bM c) (n:=4) rfl rfl (iw c);have x2:bA h' H2:=⟨by omega,fun b hb=>ko b (by omega)⟩
   have gV2:H2.get 1=some (.cells [a']):=by rw [x2.get 1 (by omega)];exact gV
   rw [F.di.aT];simp only [e3,e4,oK,nQ,e16,aR,reduceAdd,reduceEqDiff,reduceIte,bh hi,aV r.body hi,dF iu hv,hs];simp only [aR,reduceAdd,reduceEqDiff,reduceIte,aj k1,bM,fA,nil_append,cons_append];refine ah (Ao (xs:=c.args) gV2 (by omega) (o'.ext x2) (by omega) (by have:=IL hf i;omega) fun a3 h3 s1 s2 s3 s4=>?_);simp only [aR,reduceAdd,reduceEqDiff,reduceIte,aI hi (show r.body.l.length<=cM by have:=hf.2.1;unfold cM;omega)];refine hn _ _ ⟨a3,s1,by rw [EM hv];exact s2,by omega,e3,e4,oK,nQ,rfl⟩
  ·rintro e h' ⟨a',gV,o',DZ,e3,e4,oK,nQ,e16⟩ K' hx;rw [F.di.aT];simp only [nQ,e16,aR,reduceAdd,reduceEqDiff,reduceIte,aW];rw [hx,F.di.aG];simp only [e3,aR,reduceAdd,reduceEqDiff,reduceIte,aj gV];rw [kf (dM _)] at o'
   obtain ⟨x,jG,gi⟩:=o'.KF (fun v y hy=>by
    simp only [encS,mem_cons,not_mem_nil,_root_.or_false] at hy
    subst hy;exact .scalar _ rfl)
   exact ct.2 ⟨a',x,rfl,jG,gi⟩
 refine main.frozen (by have:=fN r;simpa [aP,AV.cN,AV.pure] using this) fun o h' ho=>?_;obtain ⟨v,x,rfl,hx,hfz⟩:=ct.1 ho;exact ⟨v,_,rfl,hfz,hK x hx⟩
theorem cq(b o:Nat):bq (.ptr b o)=some (.ptr b o):=rfl
theorem IM{d:TypeDesc}{k:AV}:∀ {es:List Entry} {i j:Nat} {v:AV},jB d k es i=some (some (j,v))->∃ n e,j=i+n/\es[n]?=some e
 |[],i,j,v,h=>by simp [jB] at h
 |e :: es,i,j,v,h=>by
  simp only [jB] at h;split at h
  ·cases h;exact ⟨0,e,rfl,rfl⟩
  ·obtain ⟨n,f,h1,h2⟩:=IM h;exact ⟨n+1,f,by omega,by simpa using h2⟩
  ·cases h
theorem Ap:∀ {es:List Entry} {i j:Nat} {e:Entry},(es.map (·.2.2)).Nodup->es[i]?=some e->nZ (e.2.2:Int) es j=some (j+i)
 |[],i,j,e,_,h=>by simp at h
 |f :: es,0,j,e,_,h=>by
  simp only [getElem?_cons_zero,Option.some.injEq] at h;subst h;simp [nZ]
 |f :: es,i+1,j,e,hn,h=>by
  rw [map_cons,nodup_cons] at hn;rw [getElem?_cons_succ] at h
  have hne:¬ ((f.2.2:Int)=(e.2.2:Int)):=fun heq=>hn.1 (by
   have:f.2.2=e.2.2:=by omega
   rw [this];exact List.mem_map_of_mem (ig h))
  rw [nZ,if_neg hne,Ap hn.2 h];congr 1;omega
theorem Nv{es:List Entry}{ck:Nat}{m:eE}(hb:h.get b=some (.map es ck))(hm:j6 es m)(hB:jQ es ck){k:b7}{q:Int}(hk:m.find k=some q)(v:Int) :
  ∃ xA born,lf .string (.int .i64 0) (.map b) (.str k) h=some (.tuple [.int .i64 q,.int .i64 born],h)/\iY (.map b) (.int .i64 born) (.int .i64 v) h=some (h.set b (.map xA ck))/\j6 xA (m.qX k v)/\jQ xA ck:=by
 obtain ⟨r,hr,uC⟩:=j6.jB (k:=k) 0 hm
 cases r with
 |none=>simp only at uC;rw [hk] at uC;cases uC
 |some jv=>
  obtain ⟨n,q',hj,b',c,_,e⟩:=uC;obtain ⟨j,w⟩:=jv;simp only [Nat.zero_add] at hj c;subst hj;subst c;rw [hk] at b';cases b';obtain ⟨n,f,h1,h2⟩:=IM hr;rw [Nat.zero_add] at h1;subst h1;refine ⟨eY es j (.int .i64 v),(f.2.2:Int),?_,?_,e v,hB.set _ _⟩
  ·simp only [lf,hb,pY,pX,if_true,hr,Gj,h2]
  ·have:=Ap (j:=0) hB.nodup h2;rw [Nat.zero_add] at this;simp only [iY,hb,this]
structure fq (hs:List b7) (h:Heap) (M:Nat) (ks:List b7) (lv:ew.Lv):Prop where
 ex:∃ es ck m,h.get M=some (.map es ck)/\j6 es m/\jQ es ck/\m.map (·.1)=ks/\∀ x,m.find x=if x ∈ hs then some (lv x:Int) else none
theorem fq.gj(l:fq hs h M ks lv)(he:h'.get M=h.get M):fq hs h' M ks lv:=by
 obtain ⟨es,ck,m,h1,h2⟩:=l.ex;exact ⟨es,ck,m,by rw [he];exact h1,h2⟩
def fh(r:aO)(c:eO):ew.Edge:=⟨c.name,if c.neg then 1 else 0,r.name⟩
def lT(hs:List b7)(r:aO)(c:eO):List ew.Edge:=if c.kind=0/\c.name ∈ hs then [fh r c] else []
def ni(hs:List b7)(r:aO)(cs:List eO):List ew.Edge:=cs.flatMap (lT hs r)
def jj(hs:List b7)(rs:List aO):List ew.Edge:=rs.flatMap fun r=>ni hs r r.body.l
theorem Aq{r:aO}{cs:List eO}{c:eO}(hc:cs[j]?=some c):ni hs r (cs.take (j+1))=ni hs r (cs.take j)++lT hs r c:=by
 unfold ni;rw [take_add_one,hc];simp
theorem C9{rs:List aO}{i:Nat}{r:aO}(hr:rs[i]?=some r):jj hs (rs.take (i+1))=jj hs (rs.take i)++ni hs r r.body.l:=by
 unfold jj;rw [take_add_one,hr];simp
theorem fq.look(l:fq hs h M ks lv)(k:b7) :
  dU .string (.int .i64 0) true (.map M) (.str k) h=some (.tuple [.int .i64 (if k ∈ hs then (lv k:Int) else 0),.bool (decide (k ∈ hs))]):=by
 obtain ⟨es,ck,m,h1,h2,h3,h4,h5⟩:=l.ex;rw [qY h1 h2,h5];by_cases hk:k ∈ hs<;>simp [hk]
theorem fq.UQ(l:fq hs h M ks lv)(k:b7) :
  dU .string (.int .i64 0) false (.map M) (.str k) h=some (.int .i64 (if k ∈ hs then (lv k:Int) else 0)):=by
 obtain ⟨es,ck,m,h1,h2,h3,h4,h5⟩:=l.ex;rw [tK h1 h2,h5];by_cases hk:k ∈ hs<;>simp [hk]
theorem fq.aee{e:ew.Edge}(l:fq hs h M ks lv)(hh:e.h ∈ hs)(hlt:lv e.h<lv e.b+e.w) :
  ∃ born h',lf .string (.int .i64 0) (.map M) (.str e.h) h=some (.tuple [.int .i64 (lv e.h:Int),.int .i64 born],h)/\iY (.map M) (.int .i64 born) (.int .i64 ((lv e.b+e.w:Nat):Int)) h=some h' /\
   fq hs h' M ks (ew.gQ lv e)/\(∀ b,b≠M->h'.get b=h.get b)/\h'.next=h.next:=by
 obtain ⟨es,ck,m,h1,h2,h3,h4,h5⟩:=l.ex;have hf:m.find e.h=some (lv e.h:Int):=by rw [h5,if_pos hh]
 obtain ⟨xA,born,q1,q2,q3,q4⟩:=Nv h1 h2 h3 hf ((lv e.b+e.w:Nat):Int);refine ⟨born,_,q1,q2,⟨xA,ck,_,by rw [Heap.aN,if_pos rfl],q3,q4,?_,fun x=>?_⟩,fun b hb=>by rw [Heap.aN,if_neg hb],Heap.bt _ _ _⟩
 ·rw [IJ,if_pos (mem_map.2 ⟨_,qs hf,rfl⟩)];exact h4
 ·rw [uI];unfold ew.gQ;rw [if_pos hlt];by_cases hx:x=e.h
  ·subst hx;rw [if_pos rfl,if_pos hh,if_pos rfl]
  ·rw [if_neg hx,if_neg hx,h5]
theorem KI{P:Nat}{A:AV}{rules:Sl aO}{N:Nat}(hP:h.get P=some (.cells [ak aP 3 rules,A,.map M]))(hl:fq hs h M ks lv)(Rg:P<h.next)(Wf:M<h.next)
  (hr:rules.l.length<=60) (hb:∀ r ∈ rules.l,r.body.l.length<=20/\r.name ∈ hs) (hN:∀ x,lv x<=N) (hNb:N<=1000000)
  (hK:∀ h',fq hs h' M ks (ew.round (jj hs rules.l) lv)->(∀ b,b<h.next->b≠M->h'.get b=h.get b)->h.next<=h'.next->K (.ret (.bool (!decide (ew.dr (jj hs rules.l) lv)))) h'=true):Sem TP 141 [.ptr P 0] h K:=by
 have hPM:P≠M:=fun e=>by
  obtain ⟨es,ck,m,h1,_⟩:=hl.ex;rw [e,h1] at hP;cases hP
 refine F.ru ?_;rw [F.r6];simp only [aR,reduceAdd,reduceEqDiff,reduceIte,cq,aj hP]
 refine aD 0 rules.l.length (zero_le _) (fun i e h'=>∃ cur ch,ew.RS lv cur (jj hs (rules.l.take i)) ch/\fq hs h' M ks cur/\(∀ x,cur x<=N+i*20)/\(∀ b,b<h.next->b≠M->h'.get b=h.get b)/\h.next<=h'.next /\
  e 0 = .ptr P 0/\e 3 = .bool ch/\e 13=ak aP 3 rules/\e 14 = .int .i64 (rules.l.length:Int)/\e 15 = .int .i64 (i:Int)) ⟨lv,false,ew.RS.nil lv,hl,by simpa using hN,fun _ _ _=>rfl,dM _,rfl,rfl,rfl,rfl,rfl⟩ ?_ ?_
 ·rintro i e h' _ hi ⟨cur,ch,rs,la,bd,fr,DZ,e0,e3,pQ,oK,nQ⟩ K' hn hx vF hp;have hv:rules.l[i]?=some rules.l[i]:=eA hi;generalize rules.l[i]=r at hv;obtain ⟨aaU,hin⟩:=hb r (ig hv);obtain ⟨H,Da,g1,go,gn⟩:=cu (h:=h') (zs:=[.str [],.ax,.ax]) (cs:=aP r) (n:=3) rfl rfl (j9 r);rw [F.br.aT];simp only [e0,e3,pQ,oK,nQ,aR,reduceAdd,reduceEqDiff,reduceIte,bh hi,aV rules hi,dF gv hv,Da];simp only [aR,reduceAdd,reduceEqDiff,reduceIte,aj g1,aP]
  refine aD 0 r.body.l.length (zero_le _) (fun j e h2=>∃ cur ch,ew.RS lv cur (jj hs (rules.l.take i)++ni hs r (r.body.l.take j)) ch/\fq hs h2 M ks cur/\(∀ x,cur x<=N+i*20+j)/\(∀ b,b<h.next->b≠M->h2.get b=h.get b)/\h2.get h'.next=some (.cells (aP r))/\h'.next<h2.next /\
   e 0 = .ptr P 0/\e 3 = .bool ch/\e 5 = .ptr h'.next 0/\e 13=ak aP 3 rules/\e 14 = .int .i64 (rules.l.length:Int)/\e 15 = .int .i64 (i:Int)/\e 20=ak bM 4 r.body/\e 21 = .int .i64 (r.body.l.length:Int)/\e 22 = .int .i64 (j:Int))
   ⟨cur,ch,by simpa [ni] using rs,la.gj (go M (by omega)),by simpa using bd,fun b hb1 hb2=>by rw [go b (by omega)];exact fr b hb1 hb2,g1,by omega,e0,e3,rfl,pQ,oK,nQ,rfl,rfl,rfl⟩ ?_ ?_
  ·rintro j e h2 _ hj ⟨cur,ch,rs,la,bd,fr,gR,pV,e0,e3,e5,pQ,oK,nQ,zA,Ar,Be⟩ K2 PD gi rN FD;have hc:r.body.l[j]?=some r.body.l[j]:=eA hj;generalize r.body.l[j]=c at hc;obtain ⟨H2,qH,k1,ko,kn⟩:=cu (h:=h2) (zs:=[.int .i64 0,.bool false,.str [],.ax]) (cs:=bM c) (n:=4) rfl rfl (iw c);have Rh:fq hs H2 M ks cur:=la.gj (ko M (by omega));have gP2:H2.get P=some (.cells [ak aP 3 rules,A,.map M]):=by rw [ko P (by omega),fr P Rg hPM];exact hP
   have Xw:H2.get h'.next=some (.cells (aP r)):=by rw [ko _ (by omega)];exact gR
   have fr2:∀ b,b<h.next->b≠M->H2.get b=h.get b:=fun b hb1 hb2=>by rw [ko b (by omega)];exact fr b hb1 hb2
   have hbig:r.body.l.length<=cM:=by unfold cM;omega
   have iG:=Aq (hs:=hs) (r:=r) hc;rw [F.br.dh];simp only [e0,e3,e5,pQ,oK,nQ,zA,Ar,Be,aR,reduceAdd,reduceEqDiff,reduceIte,bh hj,aV r.body hj,dF iu hc,qH];simp only [aR,reduceAdd,reduceEqDiff,reduceIte,aj k1,cq,aj gP2,bM,Rh.look,cw];by_cases k0:c.kind=0
   ·simp only [fy k0,Bool.not_true,aJ];by_cases hm:c.name ∈ hs
    ·have Ow:lT hs r c = [fh r c]:=(by unfold lT;rw [if_pos ⟨k0,hm⟩]);rw [Ow] at iG;simp only [fy hm,Bool.not_true,aJ,if_pos hm,aR,reduceAdd,reduceEqDiff,reduceIte,aj k1,bM]
     have J:∀ e':Env,e' 0 = .ptr P 0->e' 3 = .bool ch->e' 5 = .ptr h'.next 0->e' 8 = .int .i64 ((cur c.name+(fh r c).w:Nat):Int)->e' 13=ak aP 3 rules->e' 14 = .int .i64 (rules.l.length:Int)->e' 15 = .int .i64 (i:Int)->e' 20=ak bM 4 r.body->e' 21 = .int .i64 (r.body.l.length:Int)->e' 22 = .int .i64 (j:Int) ->
       F.br.J0 K2 ⟨e',71,[],H2⟩=true:=by
      intro e' e0 e3 e5 e8 pQ oK nQ zA Ar Be;rw [F.br.CE];simp only [e0,e5,e8,aR,reduceAdd,reduceEqDiff,reduceIte,cq,aj gP2,aj Xw,aP,Rh.UQ,if_pos hin];by_cases hlt:cur r.name<cur c.name+(fh r c).w
      ·obtain ⟨born,h3,q1,q2,q3,q4,q5⟩:=Rh.aee (e:=fh r c) hin hlt;have q1':lf .string (.int .i64 0) (.map M) (.str r.name) H2=some (.tuple [.int .i64 (cur r.name:Int),.int .i64 born],H2):=q1;have q2':iY (.map M) (.int .i64 born) (.int .i64 ((cur c.name+(fh r c).w:Nat):Int)) H2=some h3:=q2;simp only [bh hlt,aK,e0,e5,e8,Be,aR,reduceAdd,reduceEqDiff,reduceIte,cq,aj gP2,aj Xw,aP,q1',q2',aI hj hbig];refine PD _ _ ⟨_,true,?_,q3,fun x=>?_,fun b hb1 hb2=>by rw [q4 b hb2];exact fr2 b hb1 hb2,?_,by omega,e0,rfl,e5,pQ,oK,nQ,zA,Ar,rfl⟩
       ·rw [iG,<- append_assoc];exact rs.up hlt
       ·have:=ew.sw (e:=fh r c) bd (by unfold fh;simp only;split<;>omega) x;omega
       ·rw [q4 _ (by omega)];exact Xw
      ·simp only [eR (by omega:¬ ((cur r.name:Int)<((cur c.name+(fh r c).w:Nat):Int))),aJ,Be,aI hj hbig,aq];exact PD _ _ ⟨cur,ch,by rw [iG,<- append_assoc];exact rs.same hlt,Rh,fun x=>by have:=bd x;omega,fr2,Xw,by omega,e0,e3,e5,pQ,oK,nQ,zA,Ar,rfl⟩
     cases hng:c.neg with
     |true=>
      have hw:(fh r c).w=1:=(by unfold fh;simp [hng]);have Db:=aI (i:=cur c.name) (n:=2000000) (by have:=bd c.name;omega) (by unfold cM;omega);simp only [aK,Db,aq];exact J _ e0 e3 e5 (by rw [hw];rfl) pQ oK nQ zA Ar Be
     |false=>
      have hw:(fh r c).w=0:=(by unfold fh;simp [hng]);simp only [aJ];exact J _ e0 e3 e5 (by rw [hw];rfl) pQ oK nQ zA Ar Be
    ·have Ow:lT hs r c = []:=(by unfold lT;rw [if_neg (fun h=>hm h.2)]);rw [Ow,append_nil] at iG;simp only [eR hm,Bool.not_false,aK,aI hj hbig,aq];exact PD _ _ ⟨cur,ch,by rw [iG];exact rs,Rh,fun x=>by have:=bd x;omega,fr2,Xw,by omega,e0,e3,e5,pQ,oK,nQ,zA,Ar,rfl⟩
   ·have Ow:lT hs r c = []:=(by unfold lT;rw [if_neg (fun h=>k0 h.1)]);rw [Ow,append_nil] at iG;simp only [eR k0,Bool.not_false,aK,aI hj hbig,aq];exact PD _ _ ⟨cur,ch,by rw [iG];exact rs,Rh,fun x=>by have:=bd x;omega,fr2,Xw,by omega,e0,e3,e5,pQ,oK,nQ,zA,Ar,rfl⟩
  ·rintro e h2 ⟨cur,ch,rs,la,bd,fr,gR,pV,e0,e3,e5,pQ,oK,nQ,zA,Ar,Be⟩ K2 gi;rw [F.br.dh];simp only [Ar,Be,aR,reduceAdd,reduceEqDiff,reduceIte,aW];rw [gi,F.br.cx];simp only [nQ,aR,reduceAdd,reduceEqDiff,reduceIte,aI hi (show rules.l.length<=cM by unfold cM;omega),aq];rw [kf (dM _),<- C9 hv] at rs;exact hn _ _ ⟨cur,ch,rs,la,fun x=>by have:=bd x;omega,fr,by omega,e0,e3,pQ,oK,rfl⟩
 ·rintro e h' ⟨cur,ch,rs,la,bd,fr,DZ,e0,e3,pQ,oK,nQ⟩ K' hx;rw [F.br.aT];simp only [oK,nQ,aR,reduceAdd,reduceEqDiff,reduceIte,aW];rw [hx,F.br.aG];rw [kf (dM _)] at rs;obtain ⟨d1,d2⟩:=rs.done;simp only [bK,reduceEqDiff,reduceIte,e3];rw [d2];rw [d1] at la;exact hK h' la fr DZ
theorem aaW(x:Sl aO)(A M:Nat):iy [.ax,.jH,.jH] [(0,1),(1,1),(2,1)] [ak aP 3 x,.map A,.map M]=some (.agg [ak aP 3 x,.map A,.map M]):=by cases x<;>rfl
theorem aaX(x:Sl aO)(A M:Nat):eX (.agg [ak aP 3 x,.map A,.map M])=some [ak aP 3 x,.map A,.map M]:=cY (by simp only [bw,fZ];rfl)
def Dc(m:eE)(nm:b7)(n:Nat):Option eE:=match m.find nm with
 |none=>some (m.qX nm n)
 |some k=>if k=(n:Int) then some (m.qX nm n) else none
def nH:List eO->eE->Option eE
 |[],m=>some m
 |c :: cs,m=>bif gG c then (if c.kind=0 then (match Dc m c.name c.args.l.length with|none=>none|some m'=>nH cs m') else nH cs m) else none
def dV:List aO->eE->Option eE
 |[],m=>some m
 |r :: rs,m=>bif mj r.name r.args.l then (match Dc m r.name r.args.l.length with
   |none=>none
   |some m1=>if 20<r.body.l.length then none else if 12<(varsOf r).length then none else match nH r.body.l m1 with
    |none=>none
    |some m2=>dV rs m2) else none
theorem FE{l:List α}{i:Nat}{a:α}(h:l[i]?=some a):l.drop i=a :: l.drop (i+1):=by
 have hi:i<l.length:=(kg.1 h).1;rw [drop_eq_getElem_cons hi];rw [eA hi] at h;cases h;rfl
theorem fq.add(l:fq hs h M ks (fun _=>0))(hn:ks.Nodup)(nm:b7) :
  ∃ h' ks',eS .string (.map M) (.str nm) (.int .i64 0) h=some h'/\fq (hs++[nm]) h' M ks' (fun _=>0)/\ks'.Nodup/\(∀ b,b≠M->h'.get b=h.get b)/\h'.next=h.next:=by
 obtain ⟨es,ck,m,h1,h2,h3,h4,h5⟩:=l.ex;obtain ⟨xA,GI,q1,q2⟩:=Co h1 h2 nm 0;have g:(h.set M (.map xA GI)).get M=some (.map xA GI):=by rw [Heap.aN,if_pos rfl]
 refine ⟨_,(m.qX nm 0).map (·.1),q1,⟨xA,GI,_,g,q2,vO h1 h3 q1 g,rfl,fun x=>?_⟩,FB (by rw [h4];exact hn) nm 0,fun b hb=>by rw [Heap.aN,if_neg hb],Heap.bt _ _ _⟩;rw [uI,h5];by_cases hx:x=nm
 ·subst hx;simp
 ·simp [hx]
theorem fq.mem(l:fq hs h M ks lv)(x:b7):x ∈ ks↔x ∈ hs:=by
 obtain ⟨es,ck,m,h1,h2,h3,h4,h5⟩:=l.ex;rw [<- h4];constructor
 ·intro hx;obtain ⟨p,hp,rfl⟩:=mem_map.1 hx;have h6:=h5 p.1;by_cases hh:p.1 ∈ hs
  ·exact hh
  ·rw [if_neg hh] at h6;unfold eE.find at h6;rw [map_eq_none_iff,find?_eq_none] at h6;exact absurd (h6 p hp) (by simp)
 ·intro hx;have h6:=h5 x;rw [if_pos hx] at h6;exact mem_map.2 ⟨_,qs h6,rfl⟩
theorem fq.len(l:fq hs h M ks lv):bU .map (.map M) h=some (.int .i64 (ks.length:Int)):=by
 obtain ⟨es,ck,m,h1,h2,h3,h4,h5⟩:=l.ex
 have:∀ (es:List Entry) (m:eE),j6 es m->es.length=m.length:=by
  intro es
  induction es with
  |nil=>intro m hm;cases m with
   |nil=>rfl
   |cons p m=>exact hm.elim
  |cons e es ih=>intro m hm;cases m with
   |nil=>exact hm.elim
   |cons p m=>rw [length_cons,length_cons,ih m hm.2.2]
 have hl:=this es m h2;rw [<- h4,length_map,<- hl];simp [bU,lJ,h1]
theorem Dd:∀ {E:List ew.Edge} {L:ew.Lv} {N:Nat},(∀ e ∈ E,e.w<=1)->(∀ x,L x<=N)->∀ x,E.foldl ew.gQ L x<=N+E.length
 |[],L,N,_,h,x=>h x
 |e :: E,L,N,hw,h,x=>by
  have:=Dd (E:=E) (L:=ew.gQ L e) (N:=N+1) (fun f hf=>hw f (mem_cons_of_mem _ hf)) (ew.sw h (hw e mem_cons_self)) x;rw [length_cons];show E.foldl ew.gQ (ew.gQ L e) x<=_;omega
theorem De(hs:List b7)(r:aO):∀ cs:List eO,(ni hs r cs).length<=cs.length
 |[]=>dM _
 |c :: cs=>by
  have:=De hs r cs;have h1:(lT hs r c).length<=1:=by unfold lT;split<;>simp
  show (lT hs r c++ni hs r cs).length<=_;rw [length_append,length_cons];omega
theorem FF(hs:List b7):∀ rs:List aO,(∀ r ∈ rs,r.body.l.length<=20)->(jj hs rs).length<=rs.length*20
 |[],_=>dM _
 |r :: rs,h=>by
  have h1:=FF hs rs fun q hq=>h q (mem_cons_of_mem _ hq);have h2:=De hs r r.body.l;have h3:=h r mem_cons_self;show (ni hs r r.body.l++jj hs rs).length<=_;rw [length_append,length_cons];omega
theorem tM{rs:List aO}{e:ew.Edge}(he:e ∈ jj hs rs):∃ r ∈ rs,∃ c ∈ r.body.l,c.kind=0/\c.name ∈ hs/\e=fh r c:=by
 obtain ⟨r,hr,he⟩:=mem_flatMap.1 he;obtain ⟨c,hc,he⟩:=mem_flatMap.1 he;unfold lT at he;split at he
 ·rename_i h;rw [mem_singleton] at he;exact ⟨r,hr,c,hc,h.1,h.2,he⟩
 ·cases he
theorem KJ(r:aO)(c:eO):(fh r c).w<=1:=by unfold fh;simp only;split<;>omega
theorem je:∀ {rs:List aO} {m m':eE},dV rs m=some m'->∀ r ∈ rs,mj r.name r.args.l=true/\r.body.l.length<=20/\(varsOf r).length<=12
 |[],_,_,_,r,hr=>by cases hr
 |r0 :: rs,m,m',h,r,hr=>by
  rw [dV] at h
  cases ha:mj r0.name r0.args.l with
  |false=>rw [ha] at h;cases h
  |true=>
   rw [ha,cond_true] at h;split at h
   ·cases h
   ·split at h
    ·cases h
    ·split at h
     ·cases h
     ·split at h
      ·cases h
      ·rcases mem_cons.1 hr with rfl|hr
       ·exact ⟨ha,by omega,by omega⟩
       ·exact je h r hr
def bF(rs:List aO):List b7:=rs.map (·.name)
def bL(rs:List aO):List ew.Edge:=jj (bF rs) rs
structure kN (rs:List aO):Prop where
 mc:rs.length<=60
 go:∃ m,dV rs []=some m
 lev:∃ k,ew.dr (bL rs) (ew.iter (bL rs) k)
theorem wN{rs:List aO}(sq:rs.length<=60)(uH:∀ r ∈ rs,r.body.l.length<=20):∀ k x,ew.iter (bL rs) k x<=k*1200
 |0,x=>zero_le _
 |k+1,x=>by
  have h1:=Dd (E:=bL rs) (L:=ew.iter (bL rs) k) (N:=k*1200) (fun e he=>by obtain ⟨r,_,c,_,_,_,rfl⟩:=tM he;exact KJ r c) (wN sq uH k) x;have h2:(bL rs).length<=rs.length*20:=FF _ rs uH;show (bL rs).foldl ew.gQ (ew.iter (bL rs) k) x<=_;omega
def Nw(m:eE)(nm:b7)(n:Nat):Bool:=match m.find nm with|none=>true|some k=>decide (k=(n:Int))
theorem FG(m:eE)(nm:b7)(n:Nat):Dc m nm n=if Nw m nm n=true then some (m.qX nm n) else none:=by
 unfold Dc Nw
 cases m.find nm with
 |none=>rfl
 |some k=>by_cases h:k=(n:Int)<;>simp [h]
theorem IN(n:Int):bw (encI n)=true:=rfl
theorem PE(n:Int):fS [.int .i64 0] [(0,1)] [.int .i64 n]=some (encI n):=rfl
theorem IP(h:ef s=true):s.length<=12:=by
 cases s with
 |nil=>exact zero_le _
 |cons c s=>
  simp only [ef,and_eq_true] at h;simp only [decide_eq_true_eq] at h;omega
theorem wO{xs:List b7}(h:mj nm xs=true):ef nm=true:=by
 unfold mj at h;rw [and_eq_true] at h;exact h.1
theorem fq.aeh(l:fq hs h M ks lv)(BD:ks.Nodup)(hlen:∀ s ∈ ks,s.length<=1000) :
  ∃ es ck,h.get M=some (.map es ck)/\rf ck es=true/\es.map keyBytes=ks/\es.length=ks.length:=by
 obtain ⟨es,ck,m,h1,h2,h3,h4,h5⟩:=l.ex;have hk:es.map keyBytes=ks:=by rw [Mi h2,h4]
 refine ⟨es,ck,h1,FC (fun e he=>?_) (by rw [hk];exact BD) h3.nodup,hk,by rw [<- hk,length_map]⟩;obtain ⟨p,hp,q1,q2⟩:=h2.mem e he;exact ⟨⟨p.1,q1,hlen _ (by rw [<- h4];exact List.mem_map_of_mem hp)⟩,h3.lt e he⟩
def cU(t:Sl Int):List AV:=[ak encI 1 t]
theorem qt(t:Sl Int):(cU t).length=1:=rfl
theorem mH(t:Sl Int):AV.cN (cU t)=true:=by simp [cU,AV.cN,cc j4]
theorem ic{l:List (Sl Int)}{i:Nat}{t:Sl Int}(ht:l[i]?=some t):ag none (.dO (l.flatMap cU) (i*1)) h=some (ak encI 1 t):=by
 rw [wz qt ht];rfl
section
variable {α:Type} {enc:α->List AV} {sz k:Nat}
end
abbrev PB:=Nat×List Int
def Nx(p:PB):List AV:=[.slice p.1 0 p.2.length 1]
theorem PF(p:PB):(Nx p).length=1:=rfl
theorem PG(p:PB):bw (Nx p)=true:=rfl
structure Df (k:Nat) (h:Heap) (a:AV) (ps:List PB):Prop where
 own:Own Nx 1 k h a ps
 cell:∀ p ∈ ps,k<=p.1/\p.1<h.next/\cz a≠some p.1/\h.get p.1=some (.cells (p.2.map iv))
theorem Df.nil(k:Nat)(h:Heap):Df k h .ax []:=⟨.nil,fun p hp=>by cases hp⟩
theorem Df.ext{k:Nat}{h h':Heap}{a:AV}{ps:List PB}(n:Df k h a ps)(hx:bA h h'):Df k h' a ps:=
 ⟨n.own.ext hx,fun p hp=>by
  obtain ⟨h1,h2,h3,h4⟩:=n.cell p hp
  exact ⟨h1,Nat.lt_of_lt_of_le h2 hx.next,h3,by rw [hx.get _ h2];exact h4⟩⟩
theorem Df.yM{old:Bool}{ps:List PB}(n:Df k h a ps):∃ x:Sl (Sl Int),x.l.map Sl.l=ps.map (·.2)/\Fz old h a (ak cU 1 x):=by
 obtain ⟨o,hc⟩:=n
 cases o with
 |nil=>exact ⟨none,rfl,.scalar _ rfl⟩
 |row b ps h1 h2 h3=>
  refine ⟨some (ps.map fun p=>some p.2),by simp [List.map_map,Function.comp_def],?_⟩
  have e1:ps.flatMap Nx=ps.map fun p=>AV.slice p.1 0 p.2.length 1:=by
   induction ps with
   |nil=>rfl
   |cons p ps ih=>rw [flatMap_cons,map_cons];exact congrArg _ (by
     clear ih h3 hc
     induction ps with
     |nil=>rfl
     |cons q ps ih=>rw [flatMap_cons,map_cons,ih];rfl)
  have e2:(ps.map fun p=>(some p.2:Sl Int)).flatMap cU=ps.map fun p=>ak encI 1 (some p.2):=by
   clear h3 hc e1
   induction ps with
   |nil=>rfl
   |cons q ps ih=>rw [map_cons,flatMap_cons,map_cons,ih];rfl
  rw [e1] at h3
  have hf:Fz old h (.slice b 0 ps.length 1) (.au (ps.map fun p=>ak encI 1 (some p.2)) 0 ps.length 1):=by
   refine .slice b 0 ps.length 1 _ _ h3 (by simp) fun i x y hx hy=>?_;rw [getElem?_map] at hx hy;obtain ⟨p,hp,rfl⟩:=map_eq_some_iff.1 hx;rw [hp] at hy;cases hy;exact ym (hc p (ig hp)).2.2.2
  have:ak cU 1 (some (ps.map fun p=>(some p.2:Sl Int))) = .au (ps.map fun p=>ak encI 1 (some p.2)) 0 ps.length 1:=by
   simp only [ak,e2,length_map]
  rw [this];exact hf
theorem Df.push{k:Nat}{h:Heap}{a:AV}{ps:List PB}(n:Df k h a ps)(hk:k<=h.next)(hroom:(ps.length+1)*24<=cG)(p:PB)(p1:k<=p.1)(p2:p.1<h.next)(p3:cz a≠some p.1)(p4:h.get p.1=some (.cells (p.2.map iv))) :
  ∃ a' h',b6 1 24 a (.slice h.next 0 1 1) (h.alloc (.cells (Nx p)))=some (a',h')/\Df k h' a' (ps++[p])/\h.next<=h'.next/\(∀ c,c<h.next->cz a≠some c->h'.get c=h.get c)/\(∀ h0,bA h0 h->h0.next<=k->bA h0 h')/\∀ c,cz a'=some c->h.next<=c:=by
 obtain ⟨a',h',e1,o1,f1,n1,x1,b1⟩:=n.own.push PF PG hk hroom p;refine ⟨a',h',e1,⟨o1,fun q hq=>?_⟩,n1,f1,x1,b1⟩
 have pe:k<=q.1/\q.1<h.next/\cz a≠some q.1/\h.get q.1=some (.cells (q.2.map iv)):=by
  rcases mem_append.1 hq with hq|hq
  ·exact n.cell q hq
  ·rw [mem_singleton] at hq;subst hq;exact ⟨p1,p2,p3,p4⟩
 obtain ⟨q1,q2,q3,q4⟩:=pe;exact ⟨q1,by omega,fun hb=>by have:=b1 _ hb;omega,by rw [f1 _ q2 q3];exact q4⟩
theorem KK(h1:1<=n){i:Nat}(h:i<=k):n ^ i<=n ^ k:=Nat.pow_le_pow_right h1 h
theorem tN(n:Nat):∀ (a b:List Int) (r:Nat),vr n (a++b) r=vr n b (vr n a r)
 |[],_,_=>rfl
 |x :: a,b,r=>tN n a b _
theorem Ml{n:Nat}:∀ (l:List Int) (r i:Nat),jo n l=true->r<n ^ i->vr n l r<n ^ (i+l.length)
 |[],r,i,_,h=>h
 |x :: l,r,i,hb,h=>by
  simp only [jo,all_cons,and_eq_true,not_eq_true',decide_eq_false_iff_not] at hb
  have:r*n+x.toNat<n ^ (i+1):=by
   have h1:(r+1)*n<=n ^ i*n:=mul_le_mul_right n h;rw [succ_mul] at h1;rw [Nat.pow_succ];omega
  have:=Ml l (r*n+x.toNat) (i+1) (by rw [jo,List.all_eq_true];simpa using hb.2) this;rw [length_cons,show i+(l.length+1)=i+1+l.length by omega];exact this
theorem wP{l:List Int}(hb:jo n l=true):nc n l<n ^ l.length:=by
 have:=Ml l 0 0 hb (by simp);rw [Nat.zero_add] at this;exact this
theorem PI{l:List Int}{i:Nat}(hv:l[i]?=some v):nc n (l.take (i+1))=nc n (l.take i)*n+v.toNat:=by
 rw [nc,take_add_one,hv,tN];rfl
theorem Tq{n:Int}{l:List Int}(hb:jo n l=true)(i:Nat):jo n (l.take i)=true:=by
 unfold jo at hb ⊢;rw [List.all_eq_true] at hb ⊢;exact fun x hx=>hb x (mem_of_mem_take hx)
theorem PJ{n:Int}{l:List Int}(hb:jo n l=true){i:Nat}(hv:l[i]?=some v):0<=v/\v<n:=by
 unfold jo at hb;rw [List.all_eq_true] at hb;have:=hb v (ig hv);simp at this;omega
theorem yp{l:List Int}(hb:jo n l=true)(h1:1<=n)(hc:n ^ l.length<=4096){i:Nat}(hv:l[i]?=some v) :
  aF .mul (.int .i64 ((nc n (l.take i):Nat):Int)) (.int .i64 (n:Int))=some (.int .i64 ((nc n (l.take i)*n:Nat):Int)) /\
  aF .add (.int .i64 ((nc n (l.take i)*n:Nat):Int)) (.int .i64 v)=some (.int .i64 ((nc n (l.take (i+1)):Nat):Int)):=by
 have hi:i<l.length:=(kg.1 hv).1;have hlt:nc n (l.take (i+1))<n ^ (l.take (i+1)).length:=wP (Tq hb _);have hp:n ^ (l.take (i+1)).length<=4096:=Nat.le_trans (KK h1 (by rw [length_take];omega)) hc;obtain ⟨v0,v1⟩:=PJ hb hv;have he:nc n (l.take (i+1))=nc n (l.take i)*n+v.toNat:=PI hv;have hm:((nc n (l.take i):Nat):Int)*(n:Int)=((nc n (l.take i)*n:Nat):Int):=by rw [Int.natCast_mul]
 have hs:((nc n (l.take i)*n:Nat):Int)+v=((nc n (l.take (i+1)):Nat):Int):=by omega
 exact ⟨by rw [uA (by rw [hm];omega) (by rw [hm];omega),hm],by rw [jd (by rw [hs];omega) (by rw [hs];omega),hs]⟩
def dm:List Int->List Int->Bool
 |a :: l,b :: m=>if a=b then dm l m else decide (a<b)
 |_,_=>false
structure Rel where
 name:b7
 arity:Int
 aM:Sl (Sl Int)
structure cD where
 size:Int
 aE:Sl Rel
def EN(p:Nat->Bool)(n:Nat):Bool:=(List.range n).all p
def lU(n k:Nat)(l:List (Sl Int))(i:Nat):Bool:=match l[i]? with
 |none=>true
 |some t=>decide (t.l.length=k)&&(jo n t.l&&(match i with
  |0=>true
  |j+1=>match l[j]? with
   |none=>true
   |some p=>dm p.l t.l))
def yq(n k:Nat)(l:List (Sl Int)):Bool:=EN (lU n k l) l.length
def nj(n:Nat)(r:Rel):Bool:=ef r.name&&(decide (0<=r.arity)&&(decide (r.arity<=12)&&(decide (n ^ r.arity.toNat<=4096)&&yq n r.arity.toNat r.aM.l)))
def oL(s:cD)(i:Nat):Bool:=match s.aE.l[i]? with
 |none=>true
 |some r=>nj s.size.toNat r&&!((s.aE.l.take i).any fun q=>q.name==r.name)
def cV(s:cD):Bool:=decide (1<=s.size)&&(decide (s.size<=64)&&(decide (s.aE.l.length<=8)&&EN (oL s) s.aE.l.length))
theorem IQ{es:List Entry}{ck:Nat}{m:mF}(hb:h.get b=some (.map es ck))(hm:tG es m)(z:AV)(k:b7) :
  dU .string z false (.map b) (.str k) h=some ((m.find k).getD z):=by
 obtain ⟨r,hr,uC⟩:=tG.jB (k:=k) 0 hm;simp only [dU,lJ,hb,pY,pX,if_true,hr]
 cases r with
 |none=>simp at uC;simp [uC]
 |some jv=>
  obtain ⟨n,_,b,_⟩:=uC;obtain ⟨j,v⟩:=jv;simp [b]
def bv(b:Bool):AV:=.bool b
theorem G4{i:Nat}{v:Bool}(hb:h.get b=some (.cells (d.map bv)))(hv:d[i]?=some v):ag none (.ptr b i) h=some (.bool v):=by
 rw [aj hb,uz,getElem?_map,hv];rfl
theorem IS{i:Nat}{v:Bool}(hb:h.get b=some (.cells (d.map bv)))(hi:i<d.length):aY 1 (.ptr b i) (.bool v) h=some (h.set b (.cells ((d.set i v).map bv))):=by
 rw [cF (n:=1) hb rfl rfl (by simp;omega),map_set];rfl
theorem Wg(n:Nat):ja [.bool false] n=(replicate n false).map bv:=by
 induction n with
 |zero=>rfl
 |succ n ih=>rw [ja,ih];rfl
theorem Mm(hn:n<=1000000)(h:Heap):gz 1 1 [.bool false] (.int .i64 (n:Int)) (.int .i64 (n:Int)) h=some (.slice h.next 0 n 1,h.alloc (.cells ((replicate n false).map bv))):=by
 have:((n:Int))<=140737488355328:=by omega
 simp [gz,yO,this,Wg]
def oM(n:Nat):List (Sl Int)->List Bool->List Bool
 |[],d=>d
 |t :: ts,d=>oM n ts (d.set (nc n t.l) true)
theorem Ny{l:List (Sl Int)}{i:Nat}{t:Sl Int}(ht:l[i]?=some t)(d:List Bool):oM n (l.drop i) d=oM n (l.drop (i+1)) (d.set (nc n t.l) true):=by
 have h1:=(kg.1 ht).1;rw [drop_eq_getElem_cons h1];rw [eA h1] at ht;cases ht;rfl
theorem Dg(n:Nat):∀ (l:List (Sl Int)) (d:List Bool),(oM n l d).length=d.length
 |[],_=>rfl
 |t :: l,d=>by rw [oM,Dg n l];simp
def bitsOf(n k:Nat)(ts:List (Sl Int)):List Bool:=oM n ts (replicate (n ^ k) false)
theorem KL(n k:Nat)(ts:List (Sl Int)):(bitsOf n k ts).length=n ^ k:=by rw [bitsOf,Dg];simp
structure eo (D:b7->Option (Nat×List Bool)) (h:Heap) (B lo:Nat):Prop where
 ex:∃ es ck m,h.get B=some (.map es ck)/\tG es m/\∀ nm,m.find nm=(D nm).map fun p=>.slice p.1 0 p.2.length 1
 Fw:∀ nm p,D nm=some p->lo<=p.1/\p.1<h.next/\p.1≠B/\h.get p.1=some (.cells (p.2.map bv))
 inj:∀ nm nm' p p',D nm=some p->D nm'=some p'->p.1=p'.1->nm=nm'
 lt:B<h.next
theorem eo.ext{lo:Nat}(b:eo D h B lo)(hx:bA h h'):eo D h' B lo:=by
 obtain ⟨es,ck,m,h1,h2,h3⟩:=b.ex;refine ⟨⟨es,ck,m,by rw [hx.get _ b.lt];exact h1,h2,h3⟩,fun nm p hp=>?_,b.inj,Nat.lt_of_lt_of_le b.lt hx.next⟩;obtain ⟨q1,q2,q3,q4⟩:=b.Fw nm p hp;exact ⟨q1,Nat.lt_of_lt_of_le q2 hx.next,q3,by rw [hx.get _ q2];exact q4⟩
def bX(r:Rel):b7×Int×List (List Int):=(r.name,r.arity,r.aM.l.map Sl.l)
abbrev Nz:=b7×Int×List (List Int)
def nk(d:Nz):b7×Int:=(d.1,d.2.1)
def kO(D:b7->Option (Nat×List Bool))(nm:b7)(b:Nat)(d:List Bool):b7->Option (Nat×List Bool):=fun j=>if j=nm then some (b,d) else D j
theorem eo.set{D:b7->Option (Nat×List Bool)}{h:Heap}{B lo:Nat}(H:eo D h B lo){nm:b7}{p:Nat×List Bool}(hp:D nm=some p){d:List Bool}(hd:d.length=p.2.length):eo (kO D nm p.1 d) (h.set p.1 (.cells (d.map bv))) B lo:=by
 obtain ⟨es,ck,m,h1,h2,h3⟩:=H.ex;obtain ⟨k1,k2,k3,k4⟩:=H.Fw nm p hp;refine ⟨⟨es,ck,m,by rw [Heap.aN,if_neg (Ne.symm k3)];exact h1,h2,fun j=>?_⟩,fun j q hq=>?_,fun j j' q q' hq pe Wh=>?_,by rw [Heap.bt];exact H.lt⟩
 ·rw [h3];unfold kO;by_cases e:j=nm
  ·subst e;rw [if_pos rfl,hp,map_some,map_some,hd]
  ·rw [if_neg e]
 ·unfold kO at hq;by_cases e:j=nm
  ·rw [if_pos e] at hq;cases hq;exact ⟨k1,by rw [Heap.bt];exact k2,k3,by rw [Heap.aN,if_pos rfl]⟩
  ·rw [if_neg e] at hq;obtain ⟨q1,q2,q3,q4⟩:=H.Fw j q hq;exact ⟨q1,by rw [Heap.bt];exact q2,q3,by rw [Heap.aN,if_neg (fun e'=>e (H.inj j nm q p hq hp e'))];exact q4⟩
 ·unfold kO at hq pe;by_cases e:j=nm
  ·by_cases e':j'=nm
   ·rw [e,e']
   ·rw [if_pos e] at hq;rw [if_neg e'] at pe;cases hq;exact absurd (H.inj nm j' p q' hp pe Wh).symm e'
  ·by_cases e':j'=nm
   ·rw [if_neg e] at hq;rw [if_pos e'] at pe;cases pe;exact absurd (H.inj j nm q p hq hp Wh) e
   ·rw [if_neg e] at hq;rw [if_neg e'] at pe;exact H.inj j j' q q' hq pe Wh
theorem KM{R:AV}(hS:h.get S=some (.cells [.int .i64 (n:Int),R]))(h1:1<=n){x:Sl Int}(hx:x.l.length<=12)(hc:n ^ x.l.length<=4096)(hb:jo n x.l=true)
  (hK:K (.ret (.int .i64 ((nc n x.l:Nat):Int))) h=true):Sem TP 101 [.ptr S 0,ak encI 1 x] h K:=by
 have hbig:x.l.length<=cM:=by unfold cM;omega
 refine F.mU ?_;rw [F.nq];simp only [aR,reduceAdd,reduceEqDiff,reduceIte];refine aD 0 x.l.length (zero_le _) (fun i e h'=>h'=h/\e 0 = .ptr S 0/\e 5 = .int .i64 ((nc n (x.l.take i):Nat):Int)/\e 8=ak encI 1 x/\e 9 = .int .i64 (x.l.length:Int)/\e 10 = .int .i64 (i:Int)) ⟨rfl,rfl,rfl,rfl,rfl,rfl⟩ ?_ ?_
 ·rintro i e h' _ hi ⟨rfl,e0,e5,e8,e9,kF⟩ K' hn fW hr hp;have hv:x.l[i]?=some x.l[i]:=eA hi;rw [F.dg.aT];simp only [e0,e5,e8,e9,kF,aR,reduceAdd,reduceEqDiff,reduceIte,cq,aj hS,bh hi,aV x hi,iV hv,(yp hb h1 hc hv).1,(yp hb h1 hc hv).2,aI hi hbig];exact hn _ _ ⟨rfl,e0,rfl,e8,e9,rfl⟩
 ·rintro e h' ⟨rfl,e0,e5,e8,e9,kF⟩ K' fW;rw [F.dg.aT];simp only [e9,kF,aR,reduceAdd,reduceEqDiff,reduceIte,aW];rw [fW,F.dg.aG];simp only [e5,bK,reduceEqDiff,reduceIte];rw [kf (dM _)];exact hK
def ep(vs:List Int)(ps:List Nat):List Int:=ps.map fun p=>vs.getD p 0
theorem Mn(hV:h.get V=some (.cells (vs.map iv)))(Wi:V<h.next)(hn:n=vs.length){ps:List Nat}{x:Sl Int}(hxp:x.l=ps.map fun (p:Nat)=>(p:Int))(wh:∀ p ∈ ps,p<vs.length)(sI:ps.length<=1000000)
  (hK:∀ h',h'.get h.next=some (.cells ((ep vs ps).map iv))->bA h h'->h.next<h'.next->K (.ret (.slice h.next 0 ps.length 1)) h'=true):Sem TP 121 [.slice V 0 n 1,ak encI 1 x] h K:=by
 subst hn;have Xx:ps.length<=cM:=by unfold cM;omega
 have hl:x.l.length=ps.length:=by rw [hxp];simp
 refine F.CI ?_;rw [F.Ev];simp only [aR,reduceAdd,reduceEqDiff,reduceIte,hl,BC sI];have g0:=aB h (.cells ((replicate ps.length (0:Int)).map iv));have x0:=bA.alloc h (.cells ((replicate ps.length (0:Int)).map iv));have n0:(h.alloc (.cells ((replicate ps.length (0:Int)).map iv))).next=h.next+1:=Heap.aL _ _
 generalize h.alloc (.cells ((replicate ps.length (0:Int)).map iv))=H at g0 x0 n0 ⊢
 refine aD 0 ps.length (zero_le _) (fun i e h'=>∃ d:List Int,d.length=ps.length/\d.take i=(ep vs ps).take i/\h'.get h.next=some (.cells (d.map iv))/\bA h h'/\h.next<h'.next /\
  e 0 = .slice V 0 vs.length 1/\e 5 = .slice h.next 0 ps.length 1/\e 11=ak encI 1 x/\e 12 = .int .i64 (ps.length:Int)/\e 13 = .int .i64 (i:Int)) ⟨replicate ps.length 0,by simp,rfl,g0,x0,by omega,rfl,rfl,rfl,rfl,rfl⟩ ?_ ?_
 ·rintro i e h' _ hi ⟨d,dl,dt,q0,qx,qn,e0,e5,qI,Bf,pQ⟩ K' hn hx hr hp;have hv:ps[i]?=some ps[i]:=eA hi;generalize ps[i]=p at hv;have E9:x.l[i]?=some (p:Int):=by rw [hxp,getElem?_map,hv];rfl
  have Xq:=wh p (ig hv);have hw:vs[p]?=some (vs.getD p 0):=by rw [getD_eq_getElem?_getD,eA Xq];rfl
  have qV:h'.get V=some (.cells (vs.map iv)):=by rw [qx.get V Wi];exact hV
  have i1:=aV (enc:=encI) (sz:=1) (k:=.i64) x (i:=i) (by rw [hl];exact hi);have l1:=fun h=>iV (x:=x) E9 (h:=h);rw [F.iK.aT];simp only [e0,e5,qI,Bf,pQ,aR,reduceAdd,reduceEqDiff,reduceIte,bh hi,i1,l1,nr Xq,nG qV hw,nr hi,yj q0 (show i<d.length by omega),aI hi Xx];refine hn _ _ ⟨d.set i (vs.getD p 0),by simp [dl],?_,by rw [Heap.aN,if_pos rfl],qx.set (dM _) _,by rw [Heap.bt];exact qn,e0,e5,qI,Bf,rfl⟩;have hpk:(ep vs ps)[i]?=some (vs.getD p 0):=by unfold ep;rw [getElem?_map,hv];rfl
  rw [take_add_one,take_add_one,hpk,take_set_of_le (dM _),dt,getElem?_set,if_pos rfl,if_pos (by omega)]
 ·rintro e h' ⟨d,dl,dt,q0,qx,qn,e0,e5,qI,Bf,pQ⟩ K' hx;rw [F.iK.aT];simp only [Bf,pQ,aR,reduceAdd,reduceEqDiff,reduceIte,aW];rw [hx,F.iK.aG];simp only [e5,bK,reduceEqDiff,reduceIte]
  have:d=ep vs ps:=by
   have h1:d.take ps.length=d:=kf (by omega);have h2:(ep vs ps).take ps.length=ep vs ps:=kf (by simp [ep]);rw [<- h1,dt,h2]
  rw [this] at q0;exact hK h' q0 qx qn
theorem As{T:Nat}{R:AV}(hS:h.get S=some (.cells [.int .i64 (n:Int),R]))(h1:1<=n){t:List Int}(hT:h.get T=some (.cells (t.map iv)))(hx:t.length<=12)(hc:n ^ t.length<=4096)(hb:jo n t=true)
  (hK:K (.ret (.int .i64 ((nc n t:Nat):Int))) h=true):Sem TP 101 [.ptr S 0,.slice T 0 t.length 1] h K:=by
 have hbig:t.length<=cM:=by unfold cM;omega
 have hl:∀ h,bU .slice (.slice T 0 t.length 1) h=some (.int .i64 (t.length:Int)):=fun _=>rfl;refine F.mU ?_;rw [F.nq];simp only [aR,reduceAdd,reduceEqDiff,reduceIte,hl];refine aD 0 t.length (zero_le _) (fun i e h'=>h'=h/\e 0 = .ptr S 0/\e 5 = .int .i64 ((nc n (t.take i):Nat):Int)/\e 8 = .slice T 0 t.length 1/\e 9 = .int .i64 (t.length:Int)/\e 10 = .int .i64 (i:Int)) ⟨rfl,rfl,rfl,rfl,rfl,rfl⟩ ?_ ?_
 ·rintro i e h' _ hi ⟨rfl,e0,e5,e8,e9,kF⟩ K' hn fW hr hp;have hv:t[i]?=some t[i]:=eA hi;rw [F.dg.aT];simp only [e0,e5,e8,e9,kF,aR,reduceAdd,reduceEqDiff,reduceIte,cq,aj hS,bh hi,nr hi,nG hT hv,(yp hb h1 hc hv).1,(yp hb h1 hc hv).2,aI hi hbig];exact hn _ _ ⟨rfl,e0,rfl,e8,e9,rfl⟩
 ·rintro e h' ⟨rfl,e0,e5,e8,e9,kF⟩ K' fW;rw [F.dg.aT];simp only [e9,kF,aR,reduceAdd,reduceEqDiff,reduceIte,aW];rw [fW,F.dg.aG];simp only [e5,bK,reduceEqDiff,reduceIte];rw [kf (dM _)];exact hK
def eP(D:b7->Option (Nat×List Bool))(nm:b7)(r:Nat):Bool:=match D nm with|some p=>p.2.getD r false|none=>false
theorem eo.look{lo:Nat}(b:eo D h B lo)(hp:D nm=some p):dU .string .ax false (.map B) (.str nm) h=some (.slice p.1 0 p.2.length 1):=by
 obtain ⟨es,ck,m,h1,h2,h3⟩:=b.ex;rw [IQ h1 h2,h3,hp];rfl
def iR(n:Nat)(look:b7->Nat->Bool)(c:eO)(t:List Int):Bool:=
 (if c.kind=0 then look c.name (nc n t) else if c.kind=1 then decide (t.getD 0 0=t.getD 1 0) else decide (t.getD 0 0<t.getD 1 0)) != c.neg
theorem IU{lo T:Nat}(hS:h.get S=some (.cells [.int .i64 (n:Int),.map B]))(hD:eo D h B lo)(n1:1<=n){c:eO}{t:List Int}(hT:h.get T=some (.cells (t.map iv)))(hTn:T<h.next)(Tr:S<h.next)
  (ht:t.length<=12) (hb:jo n t=true) (hc:c.kind=0->n ^ t.length<=4096/\∃ p,D c.name=some p/\p.2.length=n ^ t.length) (hk:c.kind=1\/c.kind=2->t.length=2) (hkk:c.kind=0\/c.kind=1\/c.kind=2)
  (hK:∀ h',bA h h'->K (.ret (.bool (iR n (eP D) c t))) h'=true):Sem TP 158 [.ptr S 0,.agg [.int .i64 c.kind,.bool c.neg,.str c.name,ak encS 1 c.args],.slice T 0 t.length 1] h K:=by
 refine F.r7 ?_;rw [F.sZ];have hbx:eX (.agg [.int .i64 c.kind,.bool c.neg,.str c.name,ak encS 1 c.args])=some (bM c):=cY (iw c);have g0:(Heap.alloc h (.cells (bM c))).get h.next=some (.cells (bM c)):=aB _ _
 have gx:bA h (Heap.alloc h (.cells (bM c))):=bA.alloc _ _;simp only [hbx,aq];generalize (Heap.alloc h (.cells (bM c)))=H at g0 gx ⊢;have gS:H.get S=some (.cells [.int .i64 (n:Int),.map B]):=by rw [gx.get S Tr];exact hS
 have gT:H.get T=some (.cells (t.map iv)):=by rw [gx.get T hTn];exact hT
 have gD:=hD.ext gx;simp only [aR,reduceAdd,reduceEqDiff,reduceIte,aj g0,bM,cw];by_cases k0:c.kind=0
 ·obtain ⟨EO,p,hp,sI⟩:=hc k0;have EP:nc n t<p.2.length:=by rw [sI];exact wP hb
  have oN:p.2[nc n t]?=some (p.2.getD (nc n t) false):=by rw [getD_eq_getElem?_getD,eA EP];rfl
  obtain ⟨_,_,_,gp⟩:=gD.Fw c.name p hp;simp only [fy k0,aK,aR,reduceAdd,reduceEqDiff,reduceIte,cq,aj gS,aj g0,bM,gD.look hp];refine ah (As gS n1 gT ht EO hb ?_);simp only [aR,reduceAdd,reduceEqDiff,reduceIte,aj gS,aj g0,bM,gD.look hp,AV.beq_refl,Bool.and_self,Bool.and_true,if_true,nr EP,G4 gp oN,BA];have hv:iR n (eP D) c t = !(p.2.getD (nc n t) false==c.neg):=by unfold iR eP;rw [if_pos k0,hp];rfl
  rw [<- hv];exact hK H gx
 ·have h2:t.length=2:=hk (hkk.resolve_left k0);have v0:t[0]?=some (t.getD 0 0):=by rw [getD_eq_getElem?_getD,eA (by omega:0<t.length)];rfl
  have v1:t[1]?=some (t.getD 1 0):=by rw [getD_eq_getElem?_getD,eA (by omega:1<t.length)];rfl
  have i0:dG 1 (.slice T 0 t.length 1) (.int .i64 0)=some (.ptr T 0):=nr (i:=0) (by omega);have i1:dG 1 (.slice T 0 t.length 1) (.int .i64 1)=some (.ptr T 1):=nr (i:=1) (by omega);simp only [eR k0,aJ];by_cases k1:c.kind=1
  ·simp only [fy k1,aK,i0,i1,nG gT v0,nG gT v1,aR,reduceAdd,reduceEqDiff,reduceIte,aj g0,bM,cw,BA];have hv:iR n (eP D) c t = !(decide (t.getD 0 0=t.getD 1 0)==c.neg):=by unfold iR;rw [if_neg k0,if_pos k1];rfl
   rw [<- hv];exact hK H gx
  ·have k2:c.kind=2:=(hkk.resolve_left k0).resolve_left k1;simp only [eR k1,aJ,fy k2,aK,i0,i1,nG gT v0,nG gT v1,aR,reduceAdd,reduceEqDiff,reduceIte,aj g0,bM,BA];have hv:iR n (eP D) c t = !(decide (t.getD 0 0<t.getD 1 0)==c.neg):=by unfold iR;rw [if_neg k0,if_neg k1];rfl
   rw [<- hv];exact hK H gx
theorem NA(hx:x.l.length<=cM)(hs:s ∈ x.l)(hK:K (.ret (.int .i64 (x.l.idxOf s:Int))) h=true):Sem TP 145 [ak encS 1 x,.str s] h K:=by
 refine F.iC ?_;rw [F.iN];simp only [aR,reduceAdd,reduceEqDiff,reduceIte];refine aD 0 x.l.length (zero_le _) (fun i e h'=>h'=h/\e 0=ak encS 1 x/\e 1 = .str s/\e 7 = .int .i64 (x.l.length:Int)/\e 8 = .int .i64 (i:Int)/\i<=x.l.idxOf s) ⟨rfl,rfl,rfl,rfl,rfl,zero_le _⟩ ?_ ?_
 ·rintro i e h' _ hi ⟨rfl,e0,e1,e7,e8,ht⟩ K' hn fW hr B6;have hv:x.l[i]?=some x.l[i]:=eA hi;have hlt:x.l.idxOf s<x.l.length:=idxOf_lt_length_of_mem hs;rw [F.bB.aT];simp only [e0,e1,e7,e8,aR,reduceAdd,reduceEqDiff,reduceIte,bh hi,aV x hi,jq hv,rA];by_cases hq:s=x.l[i]
  ·simp only [fy hq,aK];rw [hr,F.bB.bC]
   have:x.l.idxOf s=i:=by
    refine Nat.le_antisymm ?_ ht;refine Nat.le_of_not_lt fun h=>?_;have h2:=not_of_lt_findIdx (p:=fun a=>a==s) (xs:=x.l) (i:=i) h;simp [<- hq] at h2
   rw [this] at hK;exact hK
  ·simp only [eR hq,aJ,aI hi hx,aq];refine hn _ _ ⟨rfl,e0,e1,e7,rfl,?_⟩;refine Nat.lt_of_le_of_ne ht fun h=>?_;have h3:x.l[x.l.idxOf s]=s:=getElem_idxOf hlt;exact hq (by rw [<- h3];congr 1;exact h.symm)
 ·rintro e h' ⟨rfl,e0,e1,e7,e8,ht⟩ K' fW;have hlt:x.l.idxOf s<x.l.length:=idxOf_lt_length_of_mem hs;omega
def placesOf(vars xs:List b7):List Nat:=xs.map fun s=>vars.idxOf s
theorem IV{vars:Sl b7}(hV:h.get V=some (.cells [ak encS 1 vars]))(Wi:V<h.next)(lI:∀ s ∈ xs.l,s ∈ vars.l)(hx:xs.l.length<=1000000)(hv:vars.l.length<=cM)
  (hK:∀ a h',Own encI 1 h.next h' a ((placesOf vars.l xs.l).map fun (p:Nat)=>(p:Int))->bA h h'->K (.ret a) h'=true):Sem TP 144 [ak encS 1 xs,.ptr V 0] h K:=by
 have Mo:xs.l.length<=cM:=by unfold cM;omega
 refine F.wF ?_;rw [F.xZ];simp only [aR,reduceAdd,reduceEqDiff,reduceIte];refine aD 0 xs.l.length (zero_le _) (fun i e h'=>∃ a,Own encI 1 h.next h' a ((placesOf vars.l (xs.l.take i)).map fun (p:Nat)=>(p:Int))/\bA h h'/\e 1 = .ptr V 0/\e 4=a/\e 7=ak encS 1 xs/\e 8 = .int .i64 (xs.l.length:Int)/\e 9 = .int .i64 (i:Int)) ⟨.ax,.nil,bA.refl _,rfl,rfl,rfl,rfl,rfl⟩ ?_ ?_
 ·rintro i e h' _ hi ⟨a,o,qx,e1,e4,e7,e8,e9⟩ K' hn fW hr hp;have hs:xs.l[i]?=some xs.l[i]:=eA hi;generalize xs.l[i]=s at hs;have qV:h'.get V=some (.cells [ak encS 1 vars]):=by rw [qx.get V Wi];exact hV
  rw [F.fe.aT];simp only [e1,e4,e7,e8,e9,aR,reduceAdd,reduceEqDiff,reduceIte,bh hi,aV xs hi,jq hs,aj qV];refine ah (NA hv (lI s (ig hs)) ?_);obtain ⟨a2,h2,p1,p2,p3,p4,p5,p6⟩:=o.push mT IN qx.next (bytes:=8) (by have:=length_take_le i xs.l;simp only [placesOf,length_map];unfold cG;omega) (vars.l.idxOf s:Int)
  simp only [aR,reduceAdd,reduceEqDiff,reduceIte,e4,PE,p1,e9,aI hi Mo];refine hn _ _ ⟨a2,?_,p5 h qx (dM _),e1,rfl,e7,e8,rfl⟩;have:placesOf vars.l (xs.l.take (i+1))=placesOf vars.l (xs.l.take i)++[vars.l.idxOf s]:=by unfold placesOf;rw [take_add_one,hs];simp
  rw [this];simpa using p2
 ·rintro e h' ⟨a,o,qx,e1,e4,e7,e8,e9⟩ K' fW;rw [F.fe.aT];simp only [e8,e9,aR,reduceAdd,reduceEqDiff,reduceIte,aW];rw [fW,F.fe.aG];rw [kf (dM _)] at o;simp only [e4,bK,reduceEqDiff,reduceIte];exact hK a h' o qx
abbrev RW:=Option (Nat×List Int)
def RW.av:RW->AV
 |none=>.ax
 |some p=>.slice p.1 0 p.2.length 1
def RW.l:RW->List Int
 |none=>[]
 |some p=>p.2
def yt(w:RW):List AV:=[w.av]
theorem IW(w:RW):(yt w).length=1:=rfl
theorem PK(w:RW):bw (yt w)=true:=by cases w<;>rfl
theorem aaY(w:RW):fS [.ax] [(0,1)] [w.av]=some (yt w):=by cases w<;>rfl
theorem PM{l:List Int}(o:Own encI 1 k h a l):∃ w:RW,a=w.av/\w.l=l/\∀ p,w=some p->k<=p.1/\p.1<h.next/\h.get p.1=some (.cells (p.2.map iv)):=by
 cases o with
 |nil=>exact ⟨none,rfl,rfl,fun p hp=>by cases hp⟩
 |row b l h1 h2 h3=>exact ⟨some (b,l),rfl,rfl,fun p hp=>by cases hp;exact ⟨h1,h2,by rw [tE];exact h3⟩⟩
theorem row_one{enc:α->List AV}(he:∀ x,(enc x).length=sz){v:α}(hb:h.get b=some (.cells (enc v))):Row enc sz h (.slice b 0 1 sz) [v]:=by
 refine ⟨rfl,?_⟩;have hl:(enc v).length=sz:=he v;simp only [iq,hb,if_true,length_singleton,Nat.one_mul,Nat.zero_add,hl,dM,drop_zero];rw [<- hl,take_length];simp
structure Hv (k:Nat) (h:Heap) (cW lW:AV) (ws:List RW) (ls:List Int) (held:List RW):Prop where
 oc:Own yt 1 k h cW ws
 ol:Own encI 1 k h lW ls
 ok:∀ w ∈ held,∀ p,w=some p->k<=p.1/\p.1<h.next/\h.get p.1=some (.cells (p.2.map iv))/\cz cW≠some p.1/\cz lW≠some p.1
 sep:∀ b,cz cW=some b->cz lW≠some b
theorem Hv.ext{k:Nat}{h h':Heap}{cW lW:AV}{ws:List RW}{ls:List Int}{held:List RW}(t:Hv k h cW lW ws ls held)(hx:bA h h'):Hv k h' cW lW ws ls held:=
 ⟨t.oc.ext hx,t.ol.ext hx,fun w hw p hp=>by
  obtain ⟨q1,q2,q3,q4⟩:=t.ok w hw p hp
  exact ⟨q1,Nat.lt_of_lt_of_le q2 hx.next,by rw [hx.get _ q2];exact q3,q4⟩,t.sep⟩
theorem Hv.hold{ws:List RW}{ls:List Int}{held:List RW}(t:Hv k h cW lW ws ls held){w:RW}(hj:∀ p,w=some p->j<=p.1/\k<=p.1/\p.1<h.next/\h.get p.1=some (.cells (p.2.map iv)))
  (hc:∀ b,cz cW=some b->b<j) (hl:∀ b,cz lW=some b->b<j):Hv k h cW lW ws ls (held++[w]):=
 ⟨t.oc,t.ol,fun v hv p hp=>by
  rcases mem_append.1 hv with hv|hv
  ·exact t.ok v hv p hp
  ·rw [mem_singleton] at hv;subst hv;obtain ⟨q1,q2,q3,q4⟩:=hj p hp
   exact ⟨q2,q3,q4,fun h=>by have:=hc _ h;omega,fun h=>by have:=hl _ h;omega⟩,t.sep⟩
theorem Hv.low{ws:List RW}{ls:List Int}{held:List RW}(t:Hv k h cW lW ws ls held){d:Nat}(hd:d<k)(x:jV):Hv k (h.set d x) cW lW ws ls held:=
 ⟨t.oc.kE hd x,t.ol.kE hd x,fun w hw p hp=>by
  obtain ⟨q1,q2,q3,q4⟩:=t.ok w hw p hp
  exact ⟨q1,by rw [Heap.bt];exact q2,by rw [Heap.aN,if_neg (by omega)];exact q3,q4⟩,t.sep⟩
theorem Hv.push{ws:List RW}{ls:List Int}{held:List RW}(t:Hv k h cW lW ws ls held)(hk:k<=h.next)(hw:ws.length<=1000000)(hl:ls.length<=1000000)(w:RW)(x:Int) :
  ∃ c' l' h2 h3,b6 1 24 cW (.slice h.next 0 1 1) ((h.alloc (.cells (yt w))).alloc (.cells (encI x)))=some (c',h2)/\b6 1 8 lW (.slice (h.next+1) 0 1 1) h2=some (l',h3) /\
   Hv k h3 c' l' (ws++[w]) (ls++[x]) held/\(∀ c,c<k->h2.get c=h.get c/\h3.get c=h.get c)/\h.next<=h3.next:=by
 have g0:((h.alloc (.cells (yt w))).alloc (.cells (encI x))).get h.next=some (.cells (yt w)):=by
  rw [Heap.aU,Heap.aL,if_neg (by omega)];exact aB _ _
 have g1:((h.alloc (.cells (yt w))).alloc (.cells (encI x))).get (h.next+1)=some (.cells (encI x)):=aB _ _;have gx:bA h ((h.alloc (.cells (yt w))).alloc (.cells (encI x))):=(bA.alloc _ _).trans (bA.alloc _ _);have gn:((h.alloc (.cells (yt w))).alloc (.cells (encI x))).next=h.next+2:=rfl
 generalize ((h.alloc (.cells (yt w))).alloc (.cells (encI x)))=H at g0 g1 gx gn ⊢;have tH:=t.ext gx;have cge:∀ b,cz cW=some b->k<=b/\b<h.next:=fun b hb=>⟨t.oc.ge hb,t.oc.lt hb⟩
 have lge:∀ b,cz lW=some b->k<=b/\b<h.next:=fun b hb=>⟨t.ol.ge hb,t.ol.lt hb⟩
 obtain ⟨c',h2,p1,p2,p3,p4,p5⟩:=tH.oc.append IW PK (row_one IW g0) (by omega) (bytes:=24) (by simp only [length_singleton];unfold cG;omega);have aaZ:=p5 (by simp);have e1:h2.get (h.next+1)=some (.cells (encI x)):=by rw [p3 _ (by omega) (fun hb=>by have:=(cge _ hb).2;omega)];exact g1
 have ol2:Own encI 1 k h2 lW ls:=by
  have o:=tH.ol
  cases o with
  |nil=>exact .nil
  |row b l q1 q2 q3=>exact .row b _ q1 (by omega) (by rw [p3 b q2 (fun hb=>t.sep b hb rfl)];exact q3)
 obtain ⟨l',h3,r1,r2,r3,r4,r5⟩:=ol2.append mT IN (row_one mT e1) (by omega) (bytes:=8) (by simp only [length_singleton];unfold cG;omega);have aa0:=r5 (by simp)
 have oc3:Own yt 1 k h3 c' (ws++[w]):=by
  generalize hL:ws++[w]=L at p2
  cases p2 with
  |nil=>exact .nil
  |row b l q1 q2 q3=>exact .row b _ q1 (by omega) (by rw [r3 b q2 (fun hb=>by have:=(lge _ hb).2;have:=aaZ b rfl;omega)];exact q3)
 refine ⟨c',l',h2,h3,p1,r1,⟨oc3,r2,fun v hv p hp=>?_,fun b hb eW=>?_⟩,fun c hc=>?_,by omega⟩
 ·obtain ⟨q1,q2,q3,q4,q5⟩:=t.ok v hv p hp;have a1:h2.get p.1=some (.cells (p.2.map iv)):=by rw [p3 _ (by omega) q4,gx.get _ q2];exact q3
  refine ⟨q1,by omega,by rw [r3 _ (by omega) q5];exact a1,fun h=>by have:=aaZ _ h;omega,fun h=>by have:=aa0 _ h;omega⟩
 ·have:=p2.lt hb;have:=aa0 b eW;omega
 ·have a1:h2.get c=h.get c:=by rw [p3 c (by omega) (fun hb=>by have:=(cge _ hb).1;omega),gx.get c (by omega)]
  exact ⟨a1,by rw [r3 c (by omega) (fun hb=>by have:=(lge _ hb).1;omega)];exact a1⟩
theorem PN:∀ ws:List RW,ws.flatMap yt=ws.map RW.av
 |[]=>rfl
 |w :: ws=>by rw [flatMap_cons,map_cons,PN ws];rfl
theorem PO:∀ ws:List RW,(ws.map fun w=>(w.map (·.2):Sl Int)).flatMap cU=ws.map fun w=>ak encI 1 (w.map (·.2))
 |[]=>rfl
 |w :: ws=>by rw [map_cons,flatMap_cons,map_cons,PO ws];rfl
theorem Hv.yM{ws:List RW}{ls:List Int}{held:List RW}(t:Hv k h cW lW ws ls held)(hs:∀ w ∈ ws,w ∈ held):∃ x:Sl (Sl Int),x.l.map Sl.l=ws.map RW.l/\Fz true h cW (ak cU 1 x):=by
 have m7:∀ w ∈ held,Fz true h w.av (ak encI 1 (w.map (·.2))):=fun w hw=>by
  cases w with
  |none=>exact .dP rfl
  |some p=>exact ym (t.ok _ hw p rfl).2.2.1
 obtain ⟨o,_,_,_⟩:=t
 cases o with
 |nil=>exact ⟨none,rfl,.dP rfl⟩
 |row b ws h1 h2 h3=>
  refine ⟨some (ws.map fun w=>(w.map (·.2):Sl Int)),?_,?_⟩
  ·simp only [Sl.Ku,List.map_map];refine map_congr_left fun w _=>?_;cases w<;>rfl
  ·have e1:=PN ws;have e2:=PO ws;rw [e1] at h3
   have hf:Fz true h (.slice b 0 ws.length 1) (.au (ws.map fun w=>ak encI 1 (w.map (·.2))) 0 ws.length 1):=by
    refine .slice b 0 ws.length 1 _ _ h3 (by simp) fun i x y hx hy=>?_;rw [getElem?_map] at hx hy;obtain ⟨w,hw,rfl⟩:=map_eq_some_iff.1 hx;rw [hw] at hy;cases hy;exact m7 w (hs w (ig hw))
   have:ak cU 1 (some (ws.map fun w=>(w.map (·.2):Sl Int))) = .au (ws.map fun w=>ak encI 1 (w.map (·.2))) 0 ws.length 1:=by
    simp only [ak,e2,length_map]
   rw [this];exact hf
def lX(xs:List b7):Bool:=xs.all ef&&decide (xs.length<=12)
theorem dN{x:Sl b7}(hx:x.l.length<=cM){h:Heap}{K:Out->Heap->Bool}(hK:K (.ret (.bool (lX x.l))) h=true):Sem TP 154 [ak encS 1 x] h K:=by
 refine F.AT ?_;rw [F.CC];refine aD 0 x.l.length (zero_le _) (fun i e h'=>h'=h/\e 0=ak encS 1 x/\e 3 = .int .i64 (i:Int)/\(x.l.take i).all ef=true) ⟨rfl,rfl,rfl,rfl⟩ ?_ ?_
 ·rintro i e h' _ hi ⟨rfl,e0,e3,ht⟩ K' hn fW hr B6;have hv:x.l[i]?=some x.l[i]:=eA hi;generalize x.l[i]=s at hv;rw [F.dN.aT];simp only [e0,e3,aR,reduceAdd,reduceEqDiff,reduceIte,bh hi,aV x hi,jq hv];refine ah (ej ?_);simp only [aR,reduceAdd,reduceEqDiff,reduceIte]
  cases hq:ef s with
  |false=>
   simp only [Bool.not_false,aK];rw [hr,F.dN.bC];have:lX x.l=false:=by unfold lX;rw [all_false hv hq,Bool.false_and]
   rw [this] at hK;exact hK
  |true=>
   simp only [Bool.not_true,aJ,aI hi hx,aq];exact hn _ _ ⟨rfl,e0,rfl,jm hv ht hq⟩
 ·rintro e h' ⟨rfl,e0,e3,ht⟩ K' fW;rw [F.dN.aT];simp only [e0,e3,aR,reduceAdd,reduceEqDiff,reduceIte,aW];rw [fW,F.dN.aG];simp only [e0,aR,reduceAdd,reduceEqDiff,reduceIte];rw [kf (dM _)] at ht;have:lX x.l=decide ((x.l.length:Int)<=12):=by unfold lX;rw [ht,Bool.true_and];by_cases h:x.l.length<=12<;>simp<;>omega
  rw [this] at hK;exact hK
def tO(r:aO):List b7:=r.args.l++r.body.l.flatMap fun c=>c.args.l
theorem vS(o a b:List b7):eM o (a++b)=eM (eM o a) b:=by unfold eM;rw [foldl_append]
theorem vT:∀ (cs:List eO) (o:List b7),jR o cs=eM o (cs.flatMap fun c=>c.args.l)
 |[],o=>rfl
 |c :: cs,o=>by
  rw [flatMap_cons,vS];exact vT cs (eM o c.args.l)
theorem Dh(r:aO):varsOf r=eM [] (tO r):=by
 unfold varsOf tO;rw [vS,vT]
theorem IX{r:aO}(hf:r.mc)(i:Nat):(r.args.l++(r.body.l.take i).flatMap fun c=>c.args.l).length<=3000000:=by
 have:∀ (cs:List eO),(∀ c ∈ cs,c.args.l.length<=1500)->(cs.flatMap fun c=>c.args.l).length<=cs.length*1500:=by
  intro cs
  induction cs with
  |nil=>intro _;simp
  |cons c cs ih=>
   intro h;have h1:=ih fun d hd=>h d (mem_cons_of_mem _ hd);have h2:=h c mem_cons_self;rw [flatMap_cons,length_append,length_cons];omega
 have h1:=this (r.body.l.take i) fun c hc=>hf.2.2 c (mem_of_mem_take hc);have h2:=length_take_le i r.body.l;have h4:=length_take_le' i r.body.l;have:=hf.1;have:=hf.2.1;rw [length_append];omega
theorem bN{r:aO}(hf:r.mc){h:Heap}{K:Out->Heap->Bool}(hK:∀ x:Sl b7,x.l=varsOf r->K (.ret (ak encS 1 x)) h=true) :
  Sem TP 43 [.agg [.str r.name,ak encS 1 r.args,ak bM 4 r.body]] h K:=by
 have Au:r.body.l.length<=cM:=by have:=hf.2.1;unfold cM;omega
 have main:Sem TP 43 [.agg [.str r.name,ak encS 1 r.args,ak bM 4 r.body]] Heap.empty (fun o h'=>yes (∃ v,∃ x:Sl b7,o = .ret v/\x.l=varsOf r/\Fz true h' v (ak encS 1 x))):=by
  refine F.ve ?_;rw [F.wE];have hb:eX (.agg [.str r.name,ak encS 1 r.args,ak bM 4 r.body])=some (aP r):=cY (j9 r);have m7:fS [] [] []=some []:=rfl;simp only [hb,m7,aq,bT,Heap.aL];have g0:(Heap.alloc (Heap.alloc Heap.empty (.cells (aP r))) (.cells [])).get 0=some (.cells (aP r)):=by simp [Heap.aU,bT]
  have g1:(Heap.alloc (Heap.alloc Heap.empty (.cells (aP r))) (.cells [])).get 1=some (.cells (([]:List b7).flatMap encS)):=by simp [Heap.aU,bT]
  have gn:(Heap.alloc (Heap.alloc Heap.empty (.cells (aP r))) (.cells [])).next=2:=rfl
  generalize (Heap.alloc (Heap.alloc Heap.empty (.cells (aP r))) (.cells []))=H at g0 g1 gn ⊢;have o0:Own encS 1 1 H (.slice (0+1) 0 0 1) []:=.row 1 [] (dM _) (by omega) g1;obtain ⟨a1,h1,p1,p2,p3,p4,p5⟩:=o0.append iA oG (uK iA r.args H) (by omega) (bytes:=16) (by have:=hf.1;unfold cG;simp only [length_nil];omega);have Tp:h1.get 0=some (.cells (aP r)):=by rw [p3 0 (by omega) (fun hb=>by simp [cz] at hb)];exact g0
  simp only [aR,reduceAdd,reduceEqDiff,reduceIte,aj g0,aP];simp only [p1,aR,reduceAdd,reduceEqDiff,reduceIte]
  refine aD 0 r.body.l.length (zero_le _) (fun i e h'=>∃ a,h'.get 0=some (.cells (aP r))/\2<=h'.next/\Own encS 1 1 h' a (r.args.l++(r.body.l.take i).flatMap fun c=>c.args.l)/\e 1 = .ptr 0 0/\e 3=a/\e 4 = .int .i64 (i:Int))
   ⟨a1,Tp,by omega,by simpa using p2,rfl,rfl,rfl⟩ ?_ ?_
  ·rintro i e h' _ hi ⟨a,q0,qn,o,e1,e3,e4⟩ K' hn hx hr hp;have hv:r.body.l[i]?=some r.body.l[i]:=eA hi;generalize r.body.l[i]=c at hv;have hc:=hf.2.2 c (ig hv);obtain ⟨a2,h2,s1,s2,s3,s4,s5⟩:=o.append iA oG (uK iA c.args h') (by omega) (bytes:=16) (by have:=IX hf i;unfold cG;omega);have ld:∀ j,j<4->∀ h,ag none (.dO (r.body.l.flatMap bM) (i*4+j)) h=(bM c)[j]?:=fun j hj h=>fI iu hv hj;rw [F.bN.aT];simp only [e1,e3,e4,aR,reduceAdd,reduceEqDiff,reduceIte,aj q0,aP,bh hi,aV r.body hi];simp only [aR,reduceAdd,reduceEqDiff,reduceIte,Nat.add_assoc,reduceAdd,ld 3 (by omega),bM,s1,aI hi Au];refine hn _ _ ⟨a2,?_,by omega,?_,e1,rfl,rfl⟩
   ·rw [s3 0 (by omega) (fun hb=>by have:=o.ge hb;omega)];exact q0
   ·rw [take_add_one,hv,flatMap_append,<- append_assoc];simpa using s2
  ·rintro e h' ⟨a,q0,qn,o,e1,e3,e4⟩ K' hx;rw [kf (dM _)] at o;have hal:(tO r).length<=3000000:=by have:=IX hf r.body.l.length;rw [kf (dM _)] at this;exact this
   have rj:(tO r).length<=cM:=by unfold cM;omega
   have o':Own encS 1 1 h' a (tO r):=o;rw [F.bN.aT];simp only [e1,e4,aR,reduceAdd,reduceEqDiff,reduceIte,aj q0,aP,aW];rw [hx,F.bN.aG]
   refine aD 0 (tO r).length (zero_le _) (fun i e h2=>∃ b,bA h' h2/\Own encS 1 h'.next h2 b (eM [] ((tO r).take i))/\e 3=a/\e 5=b/\e 6 = .int .i64 (i:Int))
    ⟨.ax,bA.refl _,by simpa [eM] using Own.nil,by simp only [bK,reduceEqDiff,reduceIte,e3],rfl,rfl⟩ ?_ ?_
   ·rintro i e h2 _ hi ⟨b,x2,ob,e3,e5,e6⟩ K2 hn gi hr hp;have hv:(tO r)[i]?=some (tO r)[i]:=eA hi;generalize (tO r)[i]=s at hv;have oa:=o'.ext x2;obtain ⟨q,_,g1,g2⟩:=tI oa hv
    have hlb:(eM [] ((tO r).take i)).length<=3000000:=by
     have h1:=oJ ((tO r).take i) [];have h2:=length_take_le' i (tO r);simp only [length_nil] at h1;omega
    have aa1:((eM [] ((tO r).take i)).any fun x=>x==s)=(eM [] ((tO r).take i)).any fun x=>s==x:=by
     congr 1;funext x;exact Bool.eq_iff_iff.2 ⟨fun h=>by rw [beq_iff_eq] at h ⊢;exact h.symm,fun h=>by rw [beq_iff_eq] at h ⊢;exact h.symm⟩
    have ki:=An (o:=[]) hv;unfold C8 at ki;rw [F.bN.dh];simp only [e3,e5,e6,oa.len,aR,reduceAdd,reduceEqDiff,reduceIte,bh hi,g1,g2];refine ah (dx ob (by unfold cM;omega) ?_);rw [aa1];simp only [aR,reduceAdd,reduceEqDiff,reduceIte]
    cases hq:(eM [] ((tO r).take i)).any fun x=>s==x with
    |true=>
     rw [hq,if_pos rfl] at ki;simp only [Bool.not_true,aJ,aI hi rj,aq];exact hn _ _ ⟨b,x2,by rw [ki];exact ob,e3,e5,rfl⟩
    |false=>
     rw [hq,if_neg (by simp)] at ki;obtain ⟨b2,h3,p1,p2,p3,p4,p5,p6⟩:=ob.push iA oG x2.next (bytes:=16) (by unfold cG;omega) s
     simp only [Bool.not_false,aK,e3,e5,e6,g1,g2,aR,reduceAdd,reduceEqDiff,reduceIte,UP,p1,aI hi rj];exact hn _ _ ⟨b2,p5 h' x2 (dM _),by rw [ki];exact p2,e3,rfl,rfl⟩
   ·rintro e h2 ⟨b,x2,ob,e3,e5,e6⟩ K2 gi;have oa:=o'.ext x2;rw [F.bN.dh];simp only [e3,e6,oa.len,aR,reduceAdd,reduceEqDiff,reduceIte,aW];rw [gi,F.bN.cx];rw [kf (dM _),<- Dh] at ob;simp only [bK,reduceEqDiff,reduceIte,e5]
    obtain ⟨x,jG,gi⟩:=ob.KF (fun v y hy=>by
     simp only [encS,mem_cons,not_mem_nil,_root_.or_false] at hy
     subst hy;exact .scalar _ rfl)
    exact ct.2 ⟨b,x,rfl,jG,gi⟩
 refine main.frozen (by have:=fN r;simpa [aP,AV.cN,AV.pure] using this) fun o h' ho=>?_;obtain ⟨v,x,rfl,hx,hfz⟩:=ct.1 ho;exact ⟨v,_,rfl,hfz,hK x hx⟩
def Mp(a b:Int):Int:=if b>a then b else a
theorem IY(a b:Int):vC true (.int .i64 a) [.int .i64 b]=some (.int .i64 (Mp a b)):=by simp [vC,J1,Mp]
def iE(ps:List Nat):Int:=ps.foldl (fun a (p:Nat)=>Mp a (p:Int)) (-1)
theorem PR{t:b7}:s ∈ C8 o t↔s ∈ o\/s=t:=by
 unfold C8;split
 ·rename_i h;obtain ⟨x,hx,hq⟩:=List.any_eq_true.1 h;rw [beq_iff_eq] at hq;exact ⟨.inl,fun h=>h.elim id fun e=>by rw [e,hq];exact hx⟩
 ·simp
theorem Di{s:b7}:∀ {l o:List b7},s ∈ eM o l↔s ∈ o\/s ∈ l
 |[],o=>by simp [eM]
 |t :: l,o=>by
  show s ∈ eM (C8 o t) l↔_;rw [Di,PR,mem_cons,_root_.or_assoc]
theorem IZ{r:aO}:s ∈ varsOf r↔s ∈ tO r:=by rw [Dh,Di];simp
theorem uL{r:aO}:∀ s ∈ r.args.l,s ∈ varsOf r:=fun s hs=>IZ.2 (mem_append_left _ hs)
theorem zB{r:aO}{c:eO}(hc:c ∈ r.body.l):∀ s ∈ c.args.l,s ∈ varsOf r:=fun s hs=>IZ.2 (mem_append_right _ (mem_flatMap.2 ⟨c,hc,hs⟩))
def jf(vars xs:List b7):List Int:=(placesOf vars xs).map fun (p:Nat)=>(p:Int)
theorem PS(i n:Int)(nm:b7)(xs:Sl b7)(ys:Sl eO)(w:RW):iy [.int .i64 0,.str [],.ax,.ax,.int .i64 0,.ax,.ax,.ax] [(0,1),(1,3),(4,1),(5,1)] [.int .i64 i,.agg [.str nm,ak encS 1 xs,ak bM 4 ys],.int .i64 n,w.av]=some (.agg [.int .i64 i,.str nm,ak encS 1 xs,ak bM 4 ys,.int .i64 n,w.av,.ax,.ax]):=by
 cases xs<;>cases ys<;>cases w<;>rfl
theorem PT(s:St):dw TP s Tryz.f102.results.toList=(match ag (some 8) (s.env 4) s.h,(some []:Option (List AV)) with|some v,some vs=>some (v :: vs)|_,_=>none):=by kernel_rfl
theorem Mq(a b c d e f g i:AV):iX (some 8) [a,b,c,d,e,f,g,i] 0=some (.agg [a,b,c,d,e,f,g,i]):=rfl
def bR(i:Int)(r:aO)(n:Int)(hd c l:AV):List AV:=[.int .i64 i,.str r.name,ak encS 1 r.args,ak bM 4 r.body,.int .i64 n,hd,c,l]
theorem I0(i:Int)(r:aO)(n:Int)(w:RW){c l:AV}(hc:bw [c]=true)(hl:bw [l]=true):bw (bR i r n w.av c l)=true:=by
 have hw:w.av.one=true:=by cases w<;>rfl
 unfold bR;simp only [bw,Bool.and_true] at hc hl ⊢;simp only [fZ,hw,hc,hl,Bool.and_true];rfl
theorem PU{P:Nat}{cs vs:List AV}(hP:h.get P=some (.cells cs))(hc:cs.length=8)(hv:vs.length=8)(h1:bw vs=true):aY 8 (.ptr P 0) (.agg vs) h=some (h.set P (.cells vs)):=by
 rw [cF hP (by exact hv) (by exact h1) (by omega)];congr 1
 match cs,hc,vs,hv with
 |[a,b,c,d,e,f,g,i],_,[a',b',c',d',e',f',g',i'],_=>rfl
set_option maxHeartbeats 2000000 in
theorem cI{i0:Int}{r:aO}(hf:r.mc){h:Heap}{K:Out->Heap->Bool}
  (hK:∀ (hd:Sl Int) (cs:Sl (Sl Int)) (ls:Sl Int),hd.l=jf (varsOf r) r.args.l->cs.l.map Sl.l=r.body.l.map (fun c=>jf (varsOf r) c.args.l)->ls.l=r.body.l.map (fun c=>iE (placesOf (varsOf r) c.args.l)) ->
   K (.ret (.agg (bR i0 r (varsOf r).length (ak encI 1 hd) (ak cU 1 cs) (ak encI 1 ls)))) h=true) :
  Sem TP 102 [.int .i64 i0,.agg [.str r.name,ak encS 1 r.args,ak bM 4 r.body]] h K:=by
 have Au:r.body.l.length<=cM:=by have:=hf.2.1;unfold cM;omega
 have D3:(varsOf r).length<=3000000:=by have:=IL hf r.body.l.length;rw [kf (dM _)] at this;exact this
 have gen:∀ R:Out->Heap->Bool,(∀ (h':Heap) (nt:RW) (cW lW:AV) (cs:Sl (Sl Int)) (ls:Sl Int),Fz true h' nt.av (ak encI 1 (nt.map (·.2)))->nt.l=jf (varsOf r) r.args.l->Fz true h' cW (ak cU 1 cs)->Fz true h' lW (ak encI 1 ls) ->
   cs.l.map Sl.l=r.body.l.map (fun c=>jf (varsOf r) c.args.l)->ls.l=r.body.l.map (fun c=>iE (placesOf (varsOf r) c.args.l))->R (.ret (.agg (bR i0 r (varsOf r).length nt.av cW lW))) h'=true) ->
   Sem TP 102 [.int .i64 i0,.agg [.str r.name,ak encS 1 r.args,ak bM 4 r.body]] Heap.empty R:=by
  intro R fin;refine F.zj ?_;rw [F.AZ];have hb:eX (.agg [.str r.name,ak encS 1 r.args,ak bM 4 r.body])=some (aP r):=cY (j9 r);simp only [hb,aq,bT,Heap.aL];have g0:(Heap.alloc (Heap.alloc Heap.empty (.cells (aP r))) (.cells [.int .i64 0,.str [],.ax,.ax,.int .i64 0,.ax,.ax,.ax])).get 0=some (.cells (aP r)):=by simp [Heap.aU,bT]
  have g1:(Heap.alloc (Heap.alloc Heap.empty (.cells (aP r))) (.cells [.int .i64 0,.str [],.ax,.ax,.int .i64 0,.ax,.ax,.ax])).get 1=some (.cells [.int .i64 0,.str [],.ax,.ax,.int .i64 0,.ax,.ax,.ax]):=by simp [Heap.aU,bT]
  have gn:(Heap.alloc (Heap.alloc Heap.empty (.cells (aP r))) (.cells [.int .i64 0,.str [],.ax,.ax,.int .i64 0,.ax,.ax,.ax])).next=2:=rfl
  generalize (Heap.alloc (Heap.alloc Heap.empty (.cells (aP r))) (.cells [.int .i64 0,.str [],.ax,.ax,.int .i64 0,.ax,.ax,.ax]))=H at g0 g1 gn ⊢;simp only [aj g0,aP,rC,aq];refine ah (di hf fun x jG=>?_);have Mo:x.l.length<=cM:=by rw [jG];unfold cM;omega
  obtain ⟨H3,LV,k2,ko,kn⟩:=mG (h:=H) (z:=.ax) (v:=ak encS 1 x) (by cases x<;>rfl) (by simp only [bw,fZ];rfl);have q0:H3.get 0=some (.cells (aP r)):=by rw [ko 0 (by omega)];exact g0
  have q1:H3.get 1=some (.cells [.int .i64 0,.str [],.ax,.ax,.int .i64 0,.ax,.ax,.ax]):=by rw [ko 1 (by omega)];exact g1
  rw [gn] at LV k2;simp only [aR,reduceAdd,reduceEqDiff,reduceIte,gn,LV];simp only [aR,reduceAdd,reduceEqDiff,reduceIte,aj q0,aj k2,aP,rC,show H3.next=3 by omega];have gx:=bA.alloc H3 (.cells [.int .i64 0,.str [],.ax,.ax,.int .i64 0,.ax,.ax,.ax])
  have g3:(H3.alloc (.cells [.int .i64 0,.str [],.ax,.ax,.int .i64 0,.ax,.ax,.ax])).get 3=some (.cells [.int .i64 0,.str [],.ax,.ax,.int .i64 0,.ax,.ax,.ax]):=by
   have:=aB H3 (.cells [.int .i64 0,.str [],.ax,.ax,.int .i64 0,.ax,.ax,.ax]);rw [show H3.next=3 by omega] at this;exact this
  have gn3:(H3.alloc (.cells [.int .i64 0,.str [],.ax,.ax,.int .i64 0,.ax,.ax,.ax])).next=4:=by rw [Heap.aL];omega
  generalize (H3.alloc (.cells [.int .i64 0,.str [],.ax,.ax,.int .i64 0,.ax,.ax,.ax]))=H4 at gx g3 gn3 ⊢;have p0:H4.get 0=some (.cells (aP r)):=by rw [gx.get 0 (by omega)];exact q0
  have p1:H4.get 1=some (.cells [.int .i64 0,.str [],.ax,.ax,.int .i64 0,.ax,.ax,.ax]):=by rw [gx.get 1 (by omega)];exact q1
  have p2:H4.get 2=some (.cells [ak encS 1 x]):=by rw [gx.get 2 (by omega)];exact k2
  refine ah (IV p2 (by omega) (fun s hs=>by rw [jG];exact uL s hs) (by have:=hf.1;omega) Mo fun a h5 oa x5=>?_);rw [gn3] at oa;obtain ⟨nt,rfl,hdl,hdk⟩:=PM oa;have r0:h5.get 0=some (.cells (aP r)):=by rw [x5.get 0 (by omega)];exact p0
  have r1:h5.get 1=some (.cells [.int .i64 0,.str [],.ax,.ax,.int .i64 0,.ax,.ax,.ax]):=by rw [x5.get 1 (by omega)];exact p1
  have r2:h5.get 2=some (.cells [ak encS 1 x]):=by rw [x5.get 2 (by omega)];exact p2
  have r3:h5.get 3=some (.cells [.int .i64 0,.str [],.ax,.ax,.int .i64 0,.ax,.ax,.ax]):=by rw [x5.get 3 (by omega)];exact g3
  have rn:=x5.next
  have iG:=PU (vs:=bR i0 r (varsOf r).length nt.av .ax .ax) r3 rfl rfl (I0 _ _ _ _ rfl rfl);have xg:=PS i0 (varsOf r).length r.name r.args r.body nt;rw [<- jG] at iG xg;simp only [aR,reduceAdd,reduceEqDiff,reduceIte,aj r0,aj r2,aP,rC,AV.beq_refl,Bool.and_self,Bool.and_true,if_true,xg];simp only [bR] at iG;simp only [iG,aR,reduceAdd,reduceEqDiff,reduceIte]
  have t0:Hv 4 (h5.set 3 (.cells (bR i0 r x.l.length nt.av .ax .ax))) .ax .ax [] [] [nt]:=
   (Hv.low ⟨.nil,.nil,fun w hw p hp=>by
    rw [mem_singleton] at hw;subst hw;obtain ⟨a1,a2,a3⟩:=hdk p hp
    exact ⟨a1,a2,a3,by simp [cz],by simp [cz]⟩,fun b hb=>by simp [cz] at hb⟩ (by omega) _)
  have s0:(h5.set 3 (.cells (bR i0 r x.l.length nt.av .ax .ax))).get 0=some (.cells (aP r)):=by rw [Heap.aN,if_neg (by omega)];exact r0
  have s1:(h5.set 3 (.cells (bR i0 r x.l.length nt.av .ax .ax))).get 1=some (.cells [.int .i64 0,.str [],.ax,.ax,.int .i64 0,.ax,.ax,.ax]):=by rw [Heap.aN,if_neg (by omega)];exact r1
  have s2:(h5.set 3 (.cells (bR i0 r x.l.length nt.av .ax .ax))).get 2=some (.cells [ak encS 1 x]):=by rw [Heap.aN,if_neg (by omega)];exact r2
  have s3:(h5.set 3 (.cells (bR i0 r x.l.length nt.av .ax .ax))).get 3=some (.cells (bR i0 r x.l.length nt.av .ax .ax)):=by rw [Heap.aN,if_pos rfl]
  have sn:(h5.set 3 (.cells (bR i0 r x.l.length nt.av .ax .ax))).next=h5.next:=Heap.bt _ _ _
  simp only [bR] at t0 s0 s1 s2 s3 sn;generalize (h5.set 3 (.cells [.int .i64 i0,.str r.name,ak encS 1 r.args,ak bM 4 r.body,.int .i64 (x.l.length:Int),nt.av,.ax,.ax]))=H6 at t0 s0 s1 s2 s3 sn ⊢;simp only [aj s0,aP,aR,reduceAdd,reduceEqDiff,reduceIte]
  refine aD 0 r.body.l.length (zero_le _) (fun i e h'=>∃ cW lW ws ls,Hv 4 h' cW lW ws ls (nt :: ws)/\ws.map RW.l=(r.body.l.take i).map (fun c=>jf (varsOf r) c.args.l)/\ls=(r.body.l.take i).map (fun c=>iE (placesOf (varsOf r) c.args.l)) /\
   h'.get 1=some (.cells [.int .i64 0,.str [],.ax,.ax,.int .i64 0,.ax,.ax,.ax])/\h'.get 2=some (.cells [ak encS 1 x])/\h'.get 3=some (.cells [.int .i64 i0,.str r.name,ak encS 1 r.args,ak bM 4 r.body,.int .i64 (x.l.length:Int),nt.av,cW,lW])/\4<=h'.next /\
   e 4 = .ptr 1 0/\e 6 = .func 144 [] [.ptr 2 0]/\e 7 = .ptr 3 0/\e 28=ak bM 4 r.body/\e 29 = .int .i64 (r.body.l.length:Int)/\e 30 = .int .i64 (i:Int))
   ⟨.ax,.ax,[],[],t0,rfl,rfl,s1,s2,s3,by omega,rfl,rfl,rfl,rfl,rfl,rfl⟩ ?_ ?_
  ·rintro i e h' _ hi ⟨cW,lW,ws,ls,tw,hws,KN,u1,u2,u3,un,e4,e6,e7,Wj,UR,US⟩ K' hn hx hr hp;have hv:r.body.l[i]?=some r.body.l[i]:=eA hi;generalize r.body.l[i]=c at hv;have G5:=ig hv;have aed:=hf.2.2 c G5;obtain ⟨H2,qH,c1,co,cn⟩:=cu (h:=h') (zs:=[.int .i64 0,.bool false,.str [],.ax]) (cs:=bM c) (n:=4) rfl rfl (iw c);have x2:bA h' H2:=⟨by omega,fun b hb=>co b (by omega)⟩
   rw [F.cI.aT];simp only [e6,Wj,UR,US,aR,reduceAdd,reduceEqDiff,reduceIte,bh hi,aV r.body hi,dF iu hv,qH];simp only [aR,reduceAdd,reduceEqDiff,reduceIte,aj c1,bM,fA,nil_append,cons_append];refine ah (IV (xs:=c.args) (by rw [x2.get 2 (by omega)];exact u2) (by omega) (fun s hs=>by rw [jG];exact zB G5 s hs) (by omega) Mo fun a h3 oa x3=>?_);rw [jG] at oa;obtain ⟨w,rfl,hwl,hwk⟩:=PM oa;have PV:=x2.trans x3;have tw3:=tw.ext PV;have v1:h3.get 1=some (.cells [.int .i64 0,.str [],.ax,.ax,.int .i64 0,.ax,.ax,.ax]):=by rw [PV.get 1 (by omega)];exact u1
   have v2:h3.get 2=some (.cells [ak encS 1 x]):=by rw [PV.get 2 (by omega)];exact u2
   have v3:h3.get 3=some (.cells [.int .i64 i0,.str r.name,ak encS 1 r.args,ak bM 4 r.body,.int .i64 (x.l.length:Int),nt.av,cW,lW]):=by rw [PV.get 3 (by omega)];exact u3
   have vn:=PV.next
   have twh:Hv 4 h3 cW lW ws ls (nt :: ws++[w]):=tw3.hold (j:=H2.next) (fun p hp=>by
    obtain ⟨a1,a2,a3⟩:=hwk p hp
    exact ⟨a1,by omega,a2,a3⟩) (fun b hb=>by have:=tw.oc.lt hb;omega) (fun b hb=>by have:=tw.ol.lt hb;omega)
   have sI:(placesOf (varsOf r) c.args.l).length<=cM:=by unfold placesOf cM;rw [length_map];omega
   have hlen:∀ h,bU .slice w.av h=some (.int .i64 ((placesOf (varsOf r) c.args.l).length:Int)):=fun h=>by rw [oa.len];simp
   simp only [aR,reduceAdd,reduceEqDiff,reduceIte,hlen]
   refine aD 0 (placesOf (varsOf r) c.args.l).length (zero_le _) (fun j e h2=>h2=h3/\e 4 = .ptr 1 0/\e 6 = .func 144 [] [.ptr 2 0]/\e 7 = .ptr 3 0/\e 28=ak bM 4 r.body/\e 29 = .int .i64 (r.body.l.length:Int)/\e 30 = .int .i64 (i:Int) /\
    e 10=w.av/\e 11 = .int .i64 (iE ((placesOf (varsOf r) c.args.l).take j))/\e 39=w.av/\e 40 = .int .i64 ((placesOf (varsOf r) c.args.l).length:Int)/\e 41 = .int .i64 (j:Int)) ⟨rfl,e4,e6,e7,Wj,UR,US,rfl,rfl,rfl,rfl,rfl⟩ ?_ ?_
   ·rintro j e h2 _ hj ⟨rfl,e4,e6,e7,Wj,UR,US,kF,qI,NB,Mr,e41⟩ K2 pV gi rN FD;have Ri:(placesOf (varsOf r) c.args.l)[j]?=some (placesOf (varsOf r) c.args.l)[j]:=eA hj;generalize (placesOf (varsOf r) c.args.l)[j]=p at Ri;have RP:((placesOf (varsOf r) c.args.l).map fun (p:Nat)=>(p:Int))[j]?=some (p:Int):=by rw [getElem?_map,Ri];rfl
    obtain ⟨b,_,_,i1,_,i3⟩:=oa.get mT RP;have i3':ag none (.ptr b (j*1)) h2=some (.int .i64 (p:Int)):=i3 0 (by omega);rw [F.cI.dh];simp only [qI,NB,Mr,e41,aR,reduceAdd,reduceEqDiff,reduceIte,bh hj,i1,i3',IY,aI hj sI];refine pV _ _ ⟨rfl,e4,e6,e7,Wj,UR,US,kF,?_,NB,Mr,rfl⟩;have:iE ((placesOf (varsOf r) c.args.l).take (j+1))=Mp (iE ((placesOf (varsOf r) c.args.l).take j)) (p:Int):=by unfold iE;rw [take_add_one,Ri];simp
    rw [this];rfl
   ·rintro e h2 ⟨rfl,e4,e6,e7,Wj,UR,US,kF,qI,NB,Mr,e41⟩ K2 gi;rw [kf (dM _)] at qI;have ai6:ws.length<=1500:=by have h1:=congrArg List.length hws;simp only [length_map] at h1;have h2:=length_take_le' i r.body.l;have:=hf.2.1;omega
    have ai7:ls.length<=1500:=(by rw [KN,length_map];have h2:=length_take_le' i r.body.l;have:=hf.2.1;omega);obtain ⟨c',l',m2,m3,t1,t2,t3,t4,t5⟩:=twh.push (by omega) (by omega) (by omega) w (iE (placesOf (varsOf r) c.args.l));have y3:m2.get 3=some (.cells [.int .i64 i0,.str r.name,ak encS 1 r.args,ak bM 4 r.body,.int .i64 (x.l.length:Int),nt.av,cW,lW]):=by rw [(t4 3 (by omega)).1];exact v3
    have z3:m3.get 3=some (.cells [.int .i64 i0,.str r.name,ak encS 1 r.args,ak bM 4 r.body,.int .i64 (x.l.length:Int),nt.av,cW,lW]):=(by rw [(t4 3 (by omega)).2];exact v3);obtain ⟨w1,w2⟩:=tL t3.oc;obtain ⟨w3,w4⟩:=tL t3.ol
    have Wk:aY 1 (.ptr 3 6) c' m3=some (m3.set 3 (.cells [.int .i64 i0,.str r.name,ak encS 1 r.args,ak bM 4 r.body,.int .i64 (x.l.length:Int),nt.av,c',lW])):=by
     rw [cF (n:=1) z3 (by rw [w1];rfl) (by rw [w1];exact w2) (by simp),w1];rfl
    have z4:(m3.set 3 (.cells [.int .i64 i0,.str r.name,ak encS 1 r.args,ak bM 4 r.body,.int .i64 (x.l.length:Int),nt.av,c',lW])).get 3=some (.cells [.int .i64 i0,.str r.name,ak encS 1 r.args,ak bM 4 r.body,.int .i64 (x.l.length:Int),nt.av,c',lW]):=by rw [Heap.aN,if_pos rfl]
    have Ts:aY 1 (.ptr 3 7) l' (m3.set 3 (.cells [.int .i64 i0,.str r.name,ak encS 1 r.args,ak bM 4 r.body,.int .i64 (x.l.length:Int),nt.av,c',lW]))=some ((m3.set 3 (.cells [.int .i64 i0,.str r.name,ak encS 1 r.args,ak bM 4 r.body,.int .i64 (x.l.length:Int),nt.av,c',lW])).set 3 (.cells [.int .i64 i0,.str r.name,ak encS 1 r.args,ak bM 4 r.body,.int .i64 (x.l.length:Int),nt.av,c',l'])):=by
     rw [cF (n:=1) z4 (by rw [w3];rfl) (by rw [w3];exact w4) (by simp),w3];rfl
    rw [F.cI.dh];simp only [Mr,e41,aR,reduceAdd,reduceEqDiff,reduceIte,aW];rw [gi,F.cI.cx];simp only [e7,kF,qI,US,aR,reduceAdd,reduceEqDiff,reduceIte,aj v3,aaY,PE,Heap.aL];rw [aj (r:=none) (o:=7) (h:=(Heap.alloc h2 (.cells (yt w)))) (cs:=[.int .i64 i0,.str r.name,ak encS 1 r.args,ak bM 4 r.body,.int .i64 (x.l.length:Int),nt.av,cW,lW]) (by rw [Heap.aU,if_neg (by omega)];exact v3)];simp only [aR,reduceAdd,reduceEqDiff,reduceIte,PE,Heap.aL,t1,aj y3,AV.beq_refl,Bool.and_self,if_true,t2,Wk,Ts,aI hi Au];refine hn _ _ ⟨c',l',ws++[w],ls++[iE (placesOf (varsOf r) c.args.l)],(t3.low (by omega) _).low (by omega) _,?_,?_,?_,?_,by rw [Heap.aN,if_pos rfl],by rw [Heap.bt,Heap.bt];omega,e4,e6,e7,Wj,UR,rfl⟩
    ·rw [map_append,hws,take_add_one,hv,map_append];simp only [map_cons,map_nil,toList_some];rw [hwl];rfl
    ·rw [KN,take_add_one,hv,map_append];rfl
    ·rw [Heap.aN,if_neg (by omega),Heap.aN,if_neg (by omega),(t4 1 (by omega)).2];exact v1
    ·rw [Heap.aN,if_neg (by omega),Heap.aN,if_neg (by omega),(t4 2 (by omega)).2];exact v2
  ·rintro e h' ⟨cW,lW,ws,ls,tw,hws,KN,u1,u2,u3,un,e4,e6,e7,Wj,UR,US⟩ K' hx;rw [kf (dM _)] at hws KN;obtain ⟨_,w2⟩:=tL tw.oc;obtain ⟨_,w4⟩:=tL tw.ol;have aa3:=PU (vs:=bR i0 r x.l.length nt.av cW lW) u1 rfl rfl (I0 _ _ _ _ w2 w4);simp only [bR] at aa3;rw [F.cI.aT];simp only [UR,US,aR,reduceAdd,reduceEqDiff,reduceIte,aW];rw [hx,F.cI.aG];simp only [e4,e7,aR,reduceAdd,reduceEqDiff,reduceIte,aj u3,Mq,aa3,PT];have tf:=tw.low (by omega:1<4) (.cells [.int .i64 i0,.str r.name,ak encS 1 r.args,ak bM 4 r.body,.int .i64 (x.l.length:Int),nt.av,cW,lW]);have gf:(h'.set 1 (.cells [.int .i64 i0,.str r.name,ak encS 1 r.args,ak bM 4 r.body,.int .i64 (x.l.length:Int),nt.av,cW,lW])).get 1=some (.cells [.int .i64 i0,.str r.name,ak encS 1 r.args,ak bM 4 r.body,.int .i64 (x.l.length:Int),nt.av,cW,lW]):=by rw [Heap.aN,if_pos rfl]
   simp only [bK,reduceEqDiff,reduceIte,e4,aj gf,Mq,aq,oneOf];obtain ⟨cs,Xp,cs2⟩:=tf.yM (fun w hw=>mem_cons_of_mem _ hw)
   obtain ⟨lx,lx1,lx2⟩:=tf.ol.KF (fun v y hy=>by
    simp only [encI,mem_cons,not_mem_nil,_root_.or_false] at hy
    subst hy;exact .scalar _ rfl)
   have hfz:Fz true (h'.set 1 (.cells [.int .i64 i0,.str r.name,ak encS 1 r.args,ak bM 4 r.body,.int .i64 (x.l.length:Int),nt.av,cW,lW])) nt.av (ak encI 1 (nt.map (·.2))):=by
    cases nt with
    |none=>exact .dP rfl
    |some p=>exact ym (tf.ok _ mem_cons_self p rfl).2.2.1
   have:=fin _ nt cW lW cs lx hfz (by rw [<- jG];exact hdl) cs2 lx2 (by rw [Xp,hws]) (by rw [lx1,KN]);rw [<- jG] at this;exact this
 have main:=gen (fun o h'=>yes (∃ (nt:RW) (cW lW:AV) (cs:Sl (Sl Int)) (ls:Sl Int),o = .ret (.agg (bR i0 r (varsOf r).length nt.av cW lW))/\Fz true h' nt.av (ak encI 1 (nt.map (·.2)))/\nt.l=jf (varsOf r) r.args.l/\Fz true h' cW (ak cU 1 cs)/\Fz true h' lW (ak encI 1 ls) /\
   cs.l.map Sl.l=r.body.l.map (fun c=>jf (varsOf r) c.args.l)/\ls.l=r.body.l.map (fun c=>iE (placesOf (varsOf r) c.args.l)))) (fun h' nt cW lW cs ls f1 f2 f3 f4 f5 f6=>ct.2 ⟨nt,cW,lW,cs,ls,rfl,f1,f2,f3,f4,f5,f6⟩)
 refine main.frozen (by have:=fN r;simpa [aP,AV.cN,AV.pure] using this) fun o h' ho=>?_;obtain ⟨nt,cW,lW,cs,ls,rfl,f1,f2,f3,f4,f5,f6⟩:=ct.1 ho
 have fl:lF true h' (bR i0 r (varsOf r).length nt.av cW lW) (bR i0 r (varsOf r).length (ak encI 1 (nt.map (·.2))) (ak cU 1 cs) (ak encI 1 ls)):=
  .cons (.scalar _ rfl) (.cons (.scalar _ rfl) (.cons (.dP (cc j5 _)) (.cons (.dP (cc wM _)) (.cons (.scalar _ rfl) (.cons f1 (.cons f3 (.cons f4 .nil)))))))
 exact ⟨_,_,rfl,.agg _ _ fl.len fl.rel,hK (nt.map (·.2)) cs ls (by rw [<- f2];cases nt<;>rfl) f5 f6⟩
theorem rD(vs:List Int)(ps:List Nat):(ep vs ps).length=ps.length:=by simp [ep]
theorem uN(hb:jo n vs=true){ps:List Nat}(wh:∀ p ∈ ps,p<vs.length):jo n (ep vs ps)=true:=by
 unfold jo at hb ⊢;rw [List.all_eq_true] at hb ⊢;intro v hv;unfold ep at hv;obtain ⟨p,hp,rfl⟩:=mem_map.1 hv;have sI:=wh p hp;refine hb _ ?_;rw [getD_eq_getElem?_getD,eA sI];exact getElem_mem sI
theorem qu{vars xs:List b7}(h:∀ s ∈ xs,s ∈ vars):∀ p ∈ placesOf vars xs,p<vars.length:=fun p hp=>by
 unfold placesOf at hp;obtain ⟨s,hs,rfl⟩:=mem_map.1 hp;exact idxOf_lt_length_of_mem (h s hs)
structure FH (n:Nat) (D:b7->Option (Nat×List Bool)) (r:aO):Prop where
 rel:∀ c ∈ r.body.l,c.kind=0->n ^ c.args.l.length<=4096/\∃ p,D c.name=some p/\p.2.length=n ^ c.args.l.length
 two:∀ c ∈ r.body.l,c.kind=1\/c.kind=2->c.args.l.length=2
 kinds:∀ c ∈ r.body.l,c.kind=0\/c.kind=1\/c.kind=2
 arity:∀ c ∈ r.body.l,c.args.l.length<=12
def eN(r:aO)(c:eO):List Nat:=placesOf (varsOf r) c.args.l
def Bg(n:Nat)(look:b7->Nat->Bool)(r:aO)(vs:List Int)(upto:Int):Bool:=r.body.l.all fun c=>!decide (iE (eN r c)=upto)||iR n look c (ep vs (eN r c))
set_option maxHeartbeats 1000000 in
theorem I1{lo:Nat}{r:aO}{nv:Int}{hd:Sl Int}{cs:Sl (Sl Int)}{ls:Sl Int}(hf:r.mc)(hcs:cs.l.map Sl.l=r.body.l.map (fun c=>jf (varsOf r) c.args.l))(KN:ls.l=r.body.l.map (fun c=>iE (placesOf (varsOf r) c.args.l)))
  (hS:h.get S=some (.cells [.int .i64 (n:Int),.map B])) (hD:eo D h B lo) (Tr:S<h.next) (h0:h.get N0=some (.cells [.ptr S 0])) (h0n:N0<h.next) (h1:h.get N1=some (.cells (bR i0 r nv (ak encI 1 hd) (ak cU 1 cs) (ak encI 1 ls)))) (h1n:N1<h.next)
  (h4:h.get N4=some (.cells [.slice V 0 vs.length 1])) (h4n:N4<h.next) (hV:h.get V=some (.cells (vs.map iv))) (Wi:V<h.next) (D3:vs.length=(varsOf r).length) (Nn:jo n vs=true) (n1:1<=n) (hk:FH n D r) {upto:Int}
  (hK:∀ h',bA h h'->K (.ret (.bool (Bg n (eP D) r vs upto))) h'=true):Sem TP 157 [.int .i64 upto,.ptr N1 0,.ptr N0 0,.ptr N4 0] h K:=by
 have Au:r.body.l.length<=cM:=by have:=hf.2.1;unfold cM;omega
 have hcl:cs.l.length=r.body.l.length:=by have:=congrArg List.length hcs;simpa using this
 have PW:ls.l.length=r.body.l.length:=by rw [KN];simp
 refine F.ry ?_;rw [F.r8];simp only [bR] at h1;simp only [aR,reduceAdd,reduceEqDiff,reduceIte,aj h1]
 refine aD 0 r.body.l.length (zero_le _) (fun i e h'=>bA h h'/\e 0 = .int .i64 upto/\e 1 = .ptr N1 0/\e 2 = .ptr N0 0/\e 3 = .ptr N4 0/\e 10=ak bM 4 r.body/\e 11 = .int .i64 (r.body.l.length:Int)/\e 12 = .int .i64 (i:Int) /\
  (r.body.l.take i).all (fun c=>!decide (iE (eN r c)=upto)||iR n (eP D) c (ep vs (eN r c)))=true) ⟨bA.refl _,rfl,rfl,rfl,rfl,rfl,rfl,rfl,rfl⟩ ?_ ?_
 ·rintro i e h' _ hi ⟨x1,e0,e1,e2,e3,kF,qI,Bf,ht⟩ K' hn hx hr hp;have hv:r.body.l[i]?=some r.body.l[i]:=eA hi;generalize r.body.l[i]=c at hv;have G5:=ig hv;obtain ⟨H2,qH,c1,co,cn⟩:=cu (h:=h') (zs:=[.int .i64 0,.bool false,.str [],.ax]) (cs:=bM c) (n:=4) rfl rfl (iw c);have x2:bA h H2:=x1.trans ⟨by omega,fun b hb=>co b (by omega)⟩;have q1:H2.get N1=some (.cells [.int .i64 i0,.str r.name,ak encS 1 r.args,ak bM 4 r.body,.int .i64 nv,ak encI 1 hd,ak cU 1 cs,ak encI 1 ls]):=by rw [x2.get _ h1n];exact h1
  have q0:H2.get N0=some (.cells [.ptr S 0]):=by rw [x2.get _ h0n];exact h0
  have q4:H2.get N4=some (.cells [.slice V 0 vs.length 1]):=by rw [x2.get _ h4n];exact h4
  have qV:H2.get V=some (.cells (vs.map iv)):=by rw [x2.get _ Wi];exact hV
  have aa4:ls.l[i]?=some (iE (eN r c)):=by rw [KN,getElem?_map,hv];rfl
  have n1x:=x1.next
  rw [F.cP.aT];simp only [e0,e1,e2,e3,kF,qI,Bf,aR,reduceAdd,reduceEqDiff,reduceIte,bh hi,aV r.body hi,dF iu hv,qH];simp only [aR,reduceAdd,reduceEqDiff,reduceIte,aj q1,aV ls (show i<ls.l.length by omega),iV aa4,cw];by_cases hu:iE (eN r c)=upto
  ·have hci:i<cs.l.length:=by omega
   have m7:cs.l[i]?=some cs.l[i]:=eA hci
   have I2:(cs.l[i]).l=(eN r c).map fun (p:Nat)=>(p:Int):=by
    have h3:(cs.l.map Sl.l)[i]?=some (jf (varsOf r) c.args.l):=(by rw [hcs,getElem?_map,hv];rfl);rw [getElem?_map,m7] at h3;exact Option.some.inj h3
   generalize cs.l[i]=xi at m7 I2;have sI:∀ p ∈ eN r c,p<vs.length:=by rw [D3];exact qu (zB G5)
   have qv:(eN r c).length=c.args.l.length:=by unfold eN placesOf;simp
   simp only [fy hu,aK,aR,reduceAdd,reduceEqDiff,reduceIte,aj q0,aj q4,aj q1,aj c1,bM,G1,aV cs hci,ic m7];refine ah (Mn (ps:=eN r c) qV (by have:=x2.next;omega) rfl I2 sI (by rw [qv];have:=hk.arity c G5;omega) fun h3 t1 x3 t2=>?_);have c3:h3.get h'.next=some (.cells (bM c)):=by rw [x3.get _ (by omega)];exact c1
   have q03:h3.get N0=some (.cells [.ptr S 0]):=by rw [x3.get _ (by have:=x2.next;omega)];exact q0
   have PV:=x2.trans x3;simp only [aR,reduceAdd,reduceEqDiff,reduceIte,aj c3,aj q03,bM,G1,AV.beq_refl,Bool.and_self,Bool.and_true,if_true];have yu:=rD vs (eN r c);have hS3:h3.get S=some (.cells [.int .i64 (n:Int),.map B]):=by rw [PV.get _ Tr];exact hS
   rw [<- yu];refine ah (IU (D:=D) (lo:=lo) hS3 (hD.ext PV) n1 t1 t2 (by have:=PV.next;omega) (by rw [yu,qv];exact hk.arity c G5) (uN Nn sI) (fun k0=>by rw [yu,qv];exact hk.rel c G5 k0) (fun NC=>by rw [yu,qv];exact hk.two c G5 NC) (hk.kinds c G5) fun h5 x5=>?_);simp only [aR,reduceAdd,reduceEqDiff,reduceIte]
   cases hcv:iR n (eP D) c (ep vs (eN r c)) with
   |false=>
    simp only [Bool.not_false,aK];rw [hr,F.cP.bC];have:Bg n (eP D) r vs upto=false:=all_false hv (by rw [fy hu,hcv];rfl);rw [this] at hK;exact hK h5 (PV.trans x5)
   |true=>
    simp only [Bool.not_true,aJ,Bf,aI hi Au,aq];exact hn _ _ ⟨PV.trans x5,e0,e1,e2,e3,kF,qI,rfl,jm hv ht (by rw [hcv,Bool.or_true])⟩
  ·simp only [eR hu,aJ,Bf,aI hi Au,aq];exact hn _ _ ⟨x2,e0,e1,e2,e3,kF,qI,rfl,jm hv ht (by rw [eR hu];rfl)⟩
 ·rintro e h' ⟨x1,e0,e1,e2,e3,kF,qI,Bf,ht⟩ K' hx;rw [kf (dM _)] at ht;rw [F.cP.aT];simp only [qI,Bf,aR,reduceAdd,reduceEqDiff,reduceIte,aW];rw [hx,F.cP.aG];have:Bg n (eP D) r vs upto=true:=ht;rw [this] at hK;exact hK h' x1
structure Tt (σ:Type) (FI:σ->Heap->Prop) (pR:σ->b7->Option (Nat×List Bool)) (tP:List Int->σ->σ) (S B n lo base k:Nat) (r:aO) (g:FuncId) (ga gb:List AV) (V0:Nat):Prop where
 n1:1<=n
 xh:n<=64
 sb:S<base
 st:∀ s h,FI s h->h.get S=some (.cells [.int .i64 (n:Int),.map B])/\eo (pR s) h B lo/\FH n (pR s) r
 gj:∀ s h h',FI s h->base<=h.next->(∀ b,b<h.next->b≠V0->h'.get b=h.get b)->h.next<=h'.next->FI s h'
 run:∀ s h vs K,FI s h->base<=V0->V0<h.next->h.get V0=some (.cells (vs.map iv))->vs.length=k->jo n vs=true ->
  (∀ h',FI (tP vs s) h'->(∀ b,base<=b->b<h.next->h'.get b=h.get b)->h.next<=h'.next->K (.ret (.bool true)) h'=true)->Sem TP g (ga++([.slice V0 0 vs.length 1]++gb)) h K
def kQ{σ:Type}(pR:σ->b7->Option (Nat×List Bool))(n:Nat)(r:aO)(v:Nat)(go:List Int->σ->List Int×σ)(acc:List Int×σ)(x:Nat):List Int×σ:=
 if Bg n (eP (pR acc.2)) r (acc.1.set v (x:Int)) (v:Int)=true then go (acc.1.set v (x:Int)) acc.2 else (acc.1.set v (x:Int),acc.2)
def ij{σ:Type}(pR:σ->b7->Option (Nat×List Bool))(tP:List Int->σ->σ)(n:Nat)(r:aO):Nat->Nat->List Int->σ->List Int×σ
 |0,_,vs,s=>(vs,tP vs s)
 |m+1,v,vs,s=>(List.range n).foldl (kQ pR n r v (ij pR tP n r m (v+1))) (vs,s)
theorem rE(h:jo n vs=true)(v:Nat){x:Nat}(hx:x<n):jo n (vs.set v (x:Int))=true:=by
 unfold jo at h ⊢;rw [List.all_eq_true] at h ⊢;intro y hy;rcases mem_or_eq_of_mem_set hy with hy|rfl
 ·exact h y hy
 ·simp;omega
theorem ju{α β:Type}{P:α->Prop}{f:α->β->α}:∀ {l:List β} {a:α},P a->(∀ a b,b ∈ l->P a->P (f a b))->P (l.foldl f a)
 |[],a,h,_=>h
 |b :: l,a,h,hf=>ju (l:=l) (hf a b mem_cons_self h) fun a c hc=>hf a c (mem_cons_of_mem _ hc)
theorem I3{σ:Type}{pR:σ->b7->Option (Nat×List Bool)}{tP:List Int->σ->σ}{n:Nat}{r:aO}{k:Nat}:∀ (m v:Nat) (vs:List Int) (s:σ),vs.length=k->jo n vs=true->(ij pR tP n r m v vs s).1.length=k/\jo n (ij pR tP n r m v vs s).1=true
 |0,v,vs,s,h1,h2=>⟨h1,h2⟩
 |m+1,v,vs,s,h1,h2=>by
  refine ju (P:=fun (a:List Int×σ)=>a.1.length=k/\jo n a.1=true) ⟨h1,h2⟩ fun a x hx ha=>?_;have UT:=mem_range.1 hx;have h3:(a.1.set v (x:Int)).length=k:=by rw [length_set];exact ha.1
  have h4:=rE ha.2 v UT;unfold kQ;split
  ·exact I3 m (v+1) _ _ h3 h4
  ·exact ⟨h3,h4⟩
structure Cells (S n k:Nat) (N0 N1 N2 N4 N5 N6 V base:Nat) (i0:Int) (r:aO) (hd:Sl Int) (cs:Sl (Sl Int)) (ls:Sl Int) (g:FuncId) (ga gb:List AV) (h:Heap):Prop where
 h0:h.get N0=some (.cells [.ptr S 0])
 h1:h.get N1=some (.cells (bR i0 r k (ak encI 1 hd) (ak cU 1 cs) (ak encI 1 ls)))
 h2:h.get N2=some (.cells [.func g ga gb])
 h4:h.get N4=some (.cells [.slice V 0 k 1])
 h5:h.get N5=some (.cells [.func 157 [] [.ptr N1 0,.ptr N0 0,.ptr N4 0]])
 h6:h.get N6=some (.cells [.func 159 [] [.ptr N1 0,.ptr N2 0,.ptr N4 0,.ptr N0 0,.ptr N5 0,.ptr N6 0]])
 lo:base<=N0/\base<=N1/\base<=N2/\base<=N4/\base<=N5/\base<=N6/\base<=V
 hi:N0<h.next/\N1<h.next/\N2<h.next/\N4<h.next/\N5<h.next/\N6<h.next/\V<h.next
 ne:N0≠V/\N1≠V/\N2≠V/\N4≠V/\N5≠V/\N6≠V
theorem Cells.gj{N2 N5 N6:Nat}{r:aO}{hd:Sl Int}{cs:Sl (Sl Int)}{ls:Sl Int}(c:Cells S n k N0 N1 N2 N4 N5 N6 V base i0 r hd cs ls g ga gb h)(hb:∀ b,base<=b->b<h.next->b≠V->h'.get b=h.get b)(hn:h.next<=h'.next) :
  Cells S n k N0 N1 N2 N4 N5 N6 V base i0 r hd cs ls g ga gb h':=by
 obtain ⟨h0,h1,h2,h4,h5,h6,⟨l0,l1,l2,l4,l5,l6,lv⟩,⟨i0',i1,i2,i4,i5,i6,iv'⟩,⟨n0,n1,n2,n4,n5,n6⟩⟩:=c
 exact ⟨by rw [hb _ l0 i0' n0];exact h0,by rw [hb _ l1 i1 n1];exact h1,by rw [hb _ l2 i2 n2];exact h2,by rw [hb _ l4 i4 n4];exact h4,by rw [hb _ l5 i5 n5];exact h5,by rw [hb _ l6 i6 n6];exact h6,
  ⟨l0,l1,l2,l4,l5,l6,lv⟩,⟨by omega,by omega,by omega,by omega,by omega,by omega,by omega⟩,⟨n0,n1,n2,n4,n5,n6⟩⟩
set_option maxHeartbeats 1000000 in
theorem ND{FI:σ->Heap->Prop}{pR:σ->b7->Option (Nat×List Bool)}{tP:List Int->σ->σ}{lo:Nat}{r:aO}(d:Tt σ FI pR tP S B n lo base k r g ga gb V)
  {N2 N5 N6:Nat} {hd:Sl Int} {cs:Sl (Sl Int)} {ls:Sl Int} (hf:r.mc) (hk:k=(varsOf r).length) (G6:k<=12) (hcs:cs.l.map Sl.l=r.body.l.map (fun c=>jf (varsOf r) c.args.l)) (KN:ls.l=r.body.l.map (fun c=>iE (placesOf (varsOf r) c.args.l))) :
  ∀ (m v:Nat),v+m=k->∀ (vs:List Int) (s:σ) (h:Heap) (K:Out->Heap->Bool),FI s h->base<=h.next->Cells S n k N0 N1 N2 N4 N5 N6 V base i0 r hd cs ls g ga gb h->h.get V=some (.cells (vs.map iv))->vs.length=k->jo n vs=true ->
   (∀ h',FI (ij pR tP n r m v vs s).2 h'->h'.get V=some (.cells ((ij pR tP n r m v vs s).1.map iv))->(∀ b,base<=b->b<h.next->b≠V->h'.get b=h.get b)->h.next<=h'.next->K (.ret (.bool true)) h'=true) ->
   Sem TP 159 [.int .i64 (v:Int),.ptr N1 0,.ptr N2 0,.ptr N4 0,.ptr N0 0,.ptr N5 0,.ptr N6 0] h K:=by
 intro m
 induction m with
 |zero=>
  intro v hv vs s h K ha MP hc hV D3 Nn hK;have h1:=hc.h1;simp only [bR] at h1;refine F.lP ?_;rw [F.mh];simp only [aR,reduceAdd,reduceEqDiff,reduceIte,aj h1,cw,fy (by omega:(v:Int)=(k:Int)),aK,aj hc.h2,aj hc.h4,fA];rw [<- D3];refine ah (d.run s h vs _ ha hc.lo.2.2.2.2.2.2 hc.hi.2.2.2.2.2.2 hV D3 Nn fun h' a1 a2 a3=>?_);simp only [aR,reduceAdd,reduceEqDiff,reduceIte];exact hK h' a1 (by rw [a2 V hc.lo.2.2.2.2.2.2 hc.hi.2.2.2.2.2.2];exact hV) (fun b b1 b2 _=>a2 b b1 b2) a3
 |succ m ih=>
  intro v hv vs s h K ha MP hc hV D3 Nn hK;have h1:=hc.h1;simp only [bR] at h1;have hS:=(d.st s h ha).1;have xh:=d.xh;refine F.lP ?_;rw [F.mh];simp only [aR,reduceAdd,reduceEqDiff,reduceIte,aj h1,cw,eR (by omega:¬ (v:Int)=(k:Int)),aJ,aj hc.h0,cq,aj hS]
  refine aD 0 n (zero_le _) (fun x e h'=>∃ acc:List Int×σ,acc=(List.range x).foldl (kQ pR n r v (ij pR tP n r m (v+1))) (vs,s)/\FI acc.2 h'/\h'.get V=some (.cells (acc.1.map iv))/\acc.1.length=k/\jo n acc.1=true /\
   (∀ b,base<=b->b<h.next->b≠V->h'.get b=h.get b)/\h.next<=h'.next/\e 0 = .int .i64 (v:Int)/\e 1 = .ptr N1 0/\e 2 = .ptr N2 0/\e 3 = .ptr N4 0/\e 4 = .ptr N0 0/\e 5 = .ptr N5 0/\e 6 = .ptr N6 0/\e 20 = .int .i64 (n:Int)/\e 21 = .int .i64 (x:Int))
   ⟨(vs,s),rfl,ha,hV,D3,Nn,fun _ _ _ _=>rfl,dM _,rfl,rfl,rfl,rfl,rfl,rfl,rfl,rfl,rfl⟩ ?_ ?_
  ·rintro x e h' _ hx ⟨acc,Tu,qa,qV,ql,qin,qf,qn,e0,e1,e2,e3,e4,e5,e6,zA,Ar⟩ K' hn fW hr hp
   have ki:(List.range (x+1)).foldl (kQ pR n r v (ij pR tP n r m (v+1))) (vs,s)=kQ pR n r v (ij pR tP n r m (v+1)) acc x:=by
    rw [range_succ,foldl_append,<- Tu];rfl
   unfold kQ at ki;have Ee:=hc.gj qf qn;have iG:=yj (v:=(x:Int)) qV (i:=v) (by omega);have Xy:v<k:=by omega
   rw [F.dA.aT];simp only [e0,e3,e5,zA,Ar,aR,reduceAdd,reduceEqDiff,reduceIte,bh hx,aj Ee.h4,nr Xy,iG];have qn0:(h'.set V (.cells ((acc.1.set v (x:Int)).map iv))).next=h'.next:=Heap.bt _ _ _
   have qg:∀ b,b≠V->(h'.set V (.cells ((acc.1.set v (x:Int)).map iv))).get b=h'.get b:=fun b hb=>by rw [Heap.aN,if_neg hb]
   have qV2:(h'.set V (.cells ((acc.1.set v (x:Int)).map iv))).get V=some (.cells ((acc.1.set v (x:Int)).map iv)):=by rw [Heap.aN,if_pos rfl]
   generalize (h'.set V (.cells ((acc.1.set v (x:Int)).map iv)))=H at qn0 qg qV2 ⊢;have cH:=Ee.gj (h':=H) (fun b _ _ hb=>qg b hb) (by omega);have lV:=hc.lo.2.2.2.2.2.2;have aH:=d.gj _ _ H qa (by omega) (fun b _ hb=>qg b hb) (by omega);obtain ⟨sS,sD,sA⟩:=d.st _ _ aH;have Nb:(acc.1.set v (x:Int)).length=k:=by rw [length_set];exact ql
   have vt:=rE qin v hx;generalize (acc.1.set v (x:Int))=vs2 at ki qV2 Nb vt;have c4:=cH.h4;rw [<- Nb] at c4;simp only [aj cH.h5,aR,reduceAdd,reduceEqDiff,reduceIte,fA,nil_append,cons_append];refine ah (I1 (n:=n) (B:=B) (lo:=lo) (S:=S) hf hcs KN sS sD (by have:=d.sb;omega) cH.h0 cH.hi.1 cH.h1 cH.hi.2.1 c4 cH.hi.2.2.2.1 qV2 cH.hi.2.2.2.2.2.2 (by omega) vt d.n1 sA fun h3 x3=>?_);have c3:=cH.gj (fun b _ hb _=>x3.get b hb) x3.next
   have a3:=d.gj _ _ h3 aH (by omega) (fun b hb _=>x3.get b hb) x3.next
   have v3:h3.get V=some (.cells (vs2.map iv)):=by rw [x3.get V cH.hi.2.2.2.2.2.2];exact qV2
   have n3:=x3.next
   have f3:∀ b,base<=b->b<h.next->b≠V->h3.get b=h.get b:=fun b b1 b2 b3=>by rw [x3.get b (by omega),qg b b3,qf b b1 b2 b3]
   simp only [aR,reduceAdd,reduceEqDiff,reduceIte]
   cases wQ:Bg n (eP (pR acc.2)) r vs2 (v:Int) with
   |false=>
    rw [wQ,if_neg (by simp)] at ki;simp only [aJ,Ar,aI hx (show n<=cM by unfold cM;omega),aq];exact hn _ _ ⟨_,ki.symm,a3,v3,Nb,vt,f3,by omega,e0,e1,e2,e3,e4,e5,e6,zA,rfl⟩
   |true=>
    rw [wQ,if_pos rfl] at ki;have Fo:=aI (i:=v) (n:=13) (by omega) (by unfold cM;omega);simp only [aK,e0,e6,aj c3.h6,aR,reduceAdd,reduceEqDiff,reduceIte,Fo,fA,nil_append,cons_append];refine ah (ih (v+1) (by omega) vs2 acc.2 h3 _ a3 (by omega) c3 v3 Nb vt fun h4 a4 v4 f4 n4=>?_);obtain ⟨w1,w2⟩:=I3 (pR:=pR) (tP:=tP) (r:=r) (k:=k) m (v+1) vs2 acc.2 Nb vt;simp only [aR,reduceAdd,reduceEqDiff,reduceIte,Bool.not_true,aJ,Ar,aI hx (show n<=cM by unfold cM;omega)];exact hn _ _ ⟨_,ki.symm,a4,v4,w1,w2,fun b b1 b2 b3=>by rw [f4 b b1 (by omega) b3,f3 b b1 b2 b3],by omega,e0,e1,e2,e3,e4,e5,e6,zA,rfl⟩
  ·rintro e h' ⟨acc,Tu,qa,qV,ql,qin,qf,qn,e0,e1,e2,e3,e4,e5,e6,zA,Ar⟩ K' fW;rw [F.dA.aT];simp only [zA,Ar,aR,reduceAdd,reduceEqDiff,reduceIte,aW];rw [fW,F.dA.aG];have:ij pR tP n r (m+1) v vs s=acc:=Tu.symm;rw [this] at hK;exact hK h' qa qV qf qn
def vU{σ:Type}(pR:σ->b7->Option (Nat×List Bool))(tP:List Int->σ->σ)(n:Nat)(r:aO)(k:Nat)(s:σ):σ:=
 if Bg n (eP (pR s)) r (replicate k 0) (-1)=true then (ij pR tP n r k 0 (replicate k 0) s).2 else s
theorem zC(i:Int)(r:aO)(n:Int)(hd:Sl Int)(cs:Sl (Sl Int))(ls:Sl Int):bw (bR i r n (ak encI 1 hd) (ak cU 1 cs) (ak encI 1 ls))=true:=by
 unfold bR;simp only [bw,fZ,Bool.and_true];rfl
theorem BE(h:1<=n)(k:Nat):jo n (replicate k (0:Int))=true:=by
 unfold jo;rw [List.all_eq_true];intro x hx;rw [(mem_replicate.1 hx).2];simp;omega
set_option maxHeartbeats 1000000 in
theorem I4{FI:Nat->σ->Heap->Prop}{pR:σ->b7->Option (Nat×List Bool)}{tP:List Int->σ->σ}{lo:Nat}{r:aO}(d:∀ V,h.next<=V->Tt σ (FI V) pR tP S B n lo base k r g ga gb V)
  {hd:Sl Int} {cs:Sl (Sl Int)} {ls:Sl Int} (hf:r.mc) (hk:k=(varsOf r).length) (G6:k<=12) (hcs:cs.l.map Sl.l=r.body.l.map (fun c=>jf (varsOf r) c.args.l)) (KN:ls.l=r.body.l.map (fun c=>iE (placesOf (varsOf r) c.args.l)))
  {s:σ} (ha:∀ V,h.next<=V->FI V s h) (MP:base<=h.next)
  (hK:∀ h' V,h.next<=V->FI V (vU pR tP n r k s) h'->(∀ b,base<=b->b<h.next->h'.get b=h.get b)->h.next<=h'.next->K (.ret (.tuple [])) h'=true) :
  Sem TP 118 [.ptr S 0,.agg (bR i0 r k (ak encI 1 hd) (ak cU 1 cs) (ak encI 1 ls)),.func g ga gb] h K:=by
 refine F.ta ?_;rw [F.vg];simp only [pE (x:=.ptr S 0) rfl,cY (zC i0 r k hd cs ls),pE (x:=.func g ga gb) rfl,aq,Heap.aL]
 have g0:(((h.alloc (.cells [.ptr S 0])).alloc (.cells (bR i0 r k (ak encI 1 hd) (ak cU 1 cs) (ak encI 1 ls)))).alloc (.cells [.func g ga gb])).get h.next=some (.cells [.ptr S 0]):=by
  rw [Heap.aU,Heap.aL,Heap.aL,if_neg (by omega),Heap.aU,Heap.aL,if_neg (by omega)];exact aB _ _
 have g1:(((h.alloc (.cells [.ptr S 0])).alloc (.cells (bR i0 r k (ak encI 1 hd) (ak cU 1 cs) (ak encI 1 ls)))).alloc (.cells [.func g ga gb])).get (h.next+1)=some (.cells (bR i0 r k (ak encI 1 hd) (ak cU 1 cs) (ak encI 1 ls))):=by
  rw [Heap.aU,Heap.aL,Heap.aL,if_neg (by omega)];exact aB _ _
 have g2:(((h.alloc (.cells [.ptr S 0])).alloc (.cells (bR i0 r k (ak encI 1 hd) (ak cU 1 cs) (ak encI 1 ls)))).alloc (.cells [.func g ga gb])).get (h.next+1+1)=some (.cells [.func g ga gb]):=aB _ _;have gx:bA h (((h.alloc (.cells [.ptr S 0])).alloc (.cells (bR i0 r k (ak encI 1 hd) (ak cU 1 cs) (ak encI 1 ls)))).alloc (.cells [.func g ga gb])):=((bA.alloc _ _).trans (bA.alloc _ _)).trans (bA.alloc _ _);have gn:(((h.alloc (.cells [.ptr S 0])).alloc (.cells (bR i0 r k (ak encI 1 hd) (ak cU 1 cs) (ak encI 1 ls)))).alloc (.cells [.func g ga gb])).next=h.next+3:=rfl
 generalize (((h.alloc (.cells [.ptr S 0])).alloc (.cells (bR i0 r k (ak encI 1 hd) (ak cU 1 cs) (ak encI 1 ls)))).alloc (.cells [.func g ga gb]))=H3 at g0 g1 g2 gx gn ⊢;have g1':=g1;simp only [bR] at g1';simp only [aR,reduceAdd,reduceEqDiff,reduceIte,aj g1',BC (show k<=1000000 by omega)];have v6:=aB H3 (.cells ((replicate k (0:Int)).map iv));have x6:=bA.alloc H3 (.cells ((replicate k (0:Int)).map iv));have n6:(H3.alloc (.cells ((replicate k (0:Int)).map iv))).next=H3.next+1:=Heap.aL _ _
 generalize (H3.alloc (.cells ((replicate k (0:Int)).map iv)))=H6 at v6 x6 n6 ⊢;obtain ⟨h7,s7,a7,o7,n7⟩:=mG (h:=H6) (z:=.ax) (v:=.slice H3.next 0 k 1) rfl rfl;obtain ⟨h8,s8,a8,o8,n8⟩:=mG (h:=h7) (z:=.mY) (v:=.func 157 [] [.ptr (h.next+1) 0,.ptr h.next 0,.ptr H6.next 0]) rfl rfl;obtain ⟨h9,s9,a9,o9,n9⟩:=mG (h:=h8) (z:=.mY) (v:=.func 159 [] [.ptr (h.next+1) 0,.ptr (h.next+1+1) 0,.ptr H6.next 0,.ptr h.next 0,.ptr h7.next 0,.ptr h8.next 0]) rfl rfl;simp only [s7,s8,s9,aq];have low:∀ b,b<H6.next->h9.get b=H6.get b:=fun b hb=>by rw [o9 b (by omega),o8 b (by omega),o7 b (by omega)]
 have c:Cells S n k h.next (h.next+1) (h.next+1+1) H6.next h7.next h8.next H3.next base i0 r hd cs ls g ga gb h9:=
  ⟨by rw [low _ (by omega),x6.get _ (by omega)];exact g0,by rw [low _ (by omega),x6.get _ (by omega)];exact g1,by rw [low _ (by omega),x6.get _ (by omega)];exact g2,
   by rw [o9 _ (by omega),o8 _ (by omega)];exact a7,by rw [o9 _ (by omega)];exact a8,a9,
   ⟨by omega,by omega,by omega,by omega,by omega,by omega,by omega⟩,⟨by omega,by omega,by omega,by omega,by omega,by omega,by omega⟩,⟨by omega,by omega,by omega,by omega,by omega,by omega⟩⟩
 have x9:bA h h9:=⟨by omega,fun b hb=>by rw [low b (by omega),x6.get b (by omega),gx.get b hb]⟩
 have v9:h9.get H3.next=some (.cells ((replicate k (0:Int)).map iv)):=by rw [low _ (by omega)];exact v6
 have hV3:h.next<=H3.next:=gx.next
 replace d:=d H3.next hV3
 replace ha:=ha H3.next hV3
 have a9':=d.gj _ _ h9 ha MP (fun b hb _=>x9.get b hb) x9.next
 have Xt:(replicate k (0:Int)).length=k:=length_replicate;have Wl:=BE d.n1 k;obtain ⟨sS,sD,sA⟩:=d.st _ _ a9';have c4:=c.h4;rw [<- Xt] at c4;generalize Nn:replicate k (0:Int)=Xz at v9 Xt Wl c4;have heF:vU pR tP n r k s=if Bg n (eP (pR s)) r Xz (-1)=true then (ij pR tP n r k 0 Xz s).2 else s:=by unfold vU;rw [Nn]
 simp only [aR,reduceAdd,reduceEqDiff,reduceIte,aj c.h5,fA,nil_append,cons_append];refine ah (I1 (n:=n) (B:=B) (lo:=lo) (S:=S) hf hcs KN sS sD (by have:=d.sb;have:=x9.next;omega) c.h0 c.hi.1 c.h1 c.hi.2.1 c4 c.hi.2.2.2.1 v9 c.hi.2.2.2.2.2.2 (by omega) Wl d.n1 sA fun OU Tv=>?_);have n10:=Tv.next
 have c10:=c.gj (fun b _ hb _=>Tv.get b hb) n10;have Rf:=d.gj _ _ OU a9' (by have:=x9.next;omega) (fun b hb _=>Tv.get b hb) n10;have v10:OU.get H3.next=some (.cells (Xz.map iv)):=by rw [Tv.get _ c.hi.2.2.2.2.2.2];exact v9
 simp only [aR,reduceAdd,reduceEqDiff,reduceIte]
 cases wQ:Bg n (eP (pR s)) r Xz (-1) with
 |false=>
  rw [wQ,if_neg (by simp)] at heF;rw [heF] at hK;simp only [aJ];exact hK OU _ hV3 Rf (fun b _ b2=>(x9.trans Tv).get b b2) (x9.trans Tv).next
 |true=>
  rw [wQ,if_pos rfl] at heF;rw [heF] at hK;simp only [aK,aR,reduceAdd,reduceEqDiff,reduceIte,aj c10.h6,fA,nil_append,cons_append];refine ah (ND d hf hk G6 hcs KN k 0 (by omega) Xz s OU _ Rf (by have:=x9.next;omega) c10 v10 Xt Wl fun h11 R4 v11 f11 n11=>?_);simp only [aR,reduceAdd,reduceEqDiff,reduceIte];exact hK h11 _ hV3 R4 (fun b b1 b2=>by rw [f11 b b1 (by have:=x9.next;omega) (by omega),(x9.trans Tv).get b b2]) (by have:=x9.next;omega)
theorem KO{FI:σ->Heap->Prop}{pR:σ->b7->Option (Nat×List Bool)}{tP:List Int->σ->σ}{lo:Nat}{r:aO}(d:∀ V,base<=V->Tt σ FI pR tP S B n lo base k r g ga gb V)
  {hd:Sl Int} {cs:Sl (Sl Int)} {ls:Sl Int} (hf:r.mc) (hk:k=(varsOf r).length) (G6:k<=12) (hcs:cs.l.map Sl.l=r.body.l.map (fun c=>jf (varsOf r) c.args.l)) (KN:ls.l=r.body.l.map (fun c=>iE (placesOf (varsOf r) c.args.l)))
  {s:σ} (ha:FI s h) (MP:base<=h.next)
  (hK:∀ h',FI (vU pR tP n r k s) h'->(∀ b,base<=b->b<h.next->h'.get b=h.get b)->h.next<=h'.next->K (.ret (.tuple [])) h'=true) :
  Sem TP 118 [.ptr S 0,.agg (bR i0 r k (ak encI 1 hd) (ak cU 1 cs) (ak encI 1 ls)),.func g ga gb] h K:=
 I4 (FI:=fun _=>FI) (fun V hV=>d V (by omega)) hf hk G6 hcs KN (fun _ _=>ha) MP fun h' _ _=>hK h'
abbrev DB:=b7->Option (Nat×List Bool)
def eB(D D0:DB):Prop:=∀ nm,(D nm).map (fun p=>(p.1,p.2.length))=(D0 nm).map (fun p=>(p.1,p.2.length))
theorem eB.get{D D0:DB}(h:eB D D0){p0:Nat×List Bool}(h0:D0 nm=some p0):∃ p,D nm=some p/\p.1=p0.1/\p.2.length=p0.2.length:=by
 have:=h nm;rw [h0] at this
 cases hd:D nm with
 |none=>rw [hd] at this;cases this
 |some p=>
  rw [hd] at this;simp only [map_some,Option.some.injEq,Prod.mk.injEq] at this;exact ⟨p,rfl,this.1,this.2⟩
theorem eB.back{D D0:DB}(h:eB D D0)(hp:D nm=some p):∃ p0,D0 nm=some p0/\p.1=p0.1/\p.2.length=p0.2.length:=by
 have:=h nm;rw [hp] at this
 cases hd:D0 nm with
 |none=>rw [hd] at this;cases this
 |some p0=>
  rw [hd] at this;simp only [map_some,Option.some.injEq,Prod.mk.injEq] at this;exact ⟨p0,rfl,this.1,this.2⟩
theorem eB.set{D D0:DB}(h:eB D D0)(hp:D nm=some p)(hd:d.length=p.2.length):eB (kO D nm p.1 d) D0:=fun j=>by
 rw [<- h j];unfold kO;by_cases e:j=nm
 ·rw [if_pos e,e,hp,map_some,map_some,hd]
 ·rw [if_neg e]
def sr(n:Nat)(r:aO)(vs:List Int)(s:DB×Bool):DB×Bool:=
 match s.1 r.name with
 |none=>s
 |some p=>if p.2.getD (nc n (ep vs (placesOf (varsOf r) r.args.l))) false=true then s else (kO s.1 r.name p.1 (p.2.set (nc n (ep vs (placesOf (varsOf r) r.args.l))) true),true)
structure oO (S B n lo base P3 P5 P6 PL:Nat) (D0:DB) (r:aO) (i0:Int) (k:Nat) (hd:Sl Int) (cs:Sl (Sl Int)) (ls:Sl Int) (ng:FuncId) (na nb:List AV) (h0:Heap) (s:DB×Bool) (h:Heap):Prop where
 hS:h.get S=some (.cells [.int .i64 (n:Int),.map B])
 hD:eo s.1 h B lo
 NF:eB s.1 D0
 h3:h.get P3=some (.cells [.ptr S 0])
 h5:h.get P5=some (.cells [.func ng na nb])
 h6:h.get P6=some (.cells [.bool s.2])
 hL:h.get PL=some (.cells (bR i0 r k (ak encI 1 hd) (ak cU 1 cs) (ak encI 1 ls)))
 lt:base<=h.next
 old:∀ b,b<base->b≠P6->(∀ nm p,D0 nm=some p->b≠p.1)->h.get b=h0.get b
structure Ms (S B n lo base P3 P5 P6 PL:Nat) (D0:DB) (r:aO) (k:Nat) (hd:Sl Int) (ng:FuncId) (na nb:List AV):Prop where
 n1:1<=n
 xh:n<=64
 low:S<base/\B<base/\P3<base/\P5<base/\P6<base/\PL<base
 rows:∀ nm p,D0 nm=some p->p.1<base/\p.1≠S/\p.1≠P3/\p.1≠P5/\p.1≠P6/\p.1≠PL
 six:P6≠S/\P6≠B/\P6≠P3/\P6≠P5/\P6≠PL
 ask:∀ D,eB D D0->FH n D r
 head:n ^ r.args.l.length<=4096/\r.args.l.length<=12/\∃ p,D0 r.name=some p/\p.2.length=n ^ r.args.l.length
 hkk:k=(varsOf r).length
 hhd:hd.l=jf (varsOf r) r.args.l
 note:∀ (i:Int) (r:aO) (k:Int) (hd:Sl Int) (cs:Sl (Sl Int)) (ls:Sl Int) (y:AV) (h:Heap) (K:Out->Heap->Bool),(∀ h',bA h h'->K (.ret (.tuple [])) h'=true)->Sem TP ng (na++([.agg (bR i r k (ak encI 1 hd) (ak cU 1 cs) (ak encI 1 ls)),y]++nb)) h K
theorem oO.gj{lo:Nat}{D0:DB}{r:aO}{hd:Sl Int}{cs:Sl (Sl Int)}{ls:Sl Int}{h0:Heap}(o:Ms S B n lo base P3 P5 P6 PL D0 r k hd ng na nb){s:DB×Bool}
  (a:oO S B n lo base P3 P5 P6 PL D0 r i0 k hd cs ls ng na nb h0 s h) (hb:∀ b,b<base->h'.get b=h.get b) (hn:h.next<=h'.next):oO S B n lo base P3 P5 P6 PL D0 r i0 k hd cs ls ng na nb h0 s h':=by
 obtain ⟨l1,l2,l3,l4,l5,l6⟩:=o.low;refine ⟨by rw [hb _ l1];exact a.hS,?_,a.NF,by rw [hb _ l3];exact a.h3,by rw [hb _ l4];exact a.h5,by rw [hb _ l5];exact a.h6,by rw [hb _ l6];exact a.hL,Nat.le_trans a.lt hn,fun b b1 b2 b3=>by rw [hb b b1];exact a.old b b1 b2 b3⟩;obtain ⟨es,ck,m,e1,e2,e3⟩:=a.hD.ex;refine ⟨⟨es,ck,m,by rw [hb _ l2];exact e1,e2,e3⟩,fun nm p hp=>?_,a.hD.inj,Nat.lt_of_lt_of_le a.hD.lt hn⟩;obtain ⟨q1,q2,q3,q4⟩:=a.hD.Fw nm p hp;obtain ⟨p0,r1,r2,_⟩:=a.NF.back hp;have:=(o.rows nm p0 r1).1;exact ⟨q1,Nat.lt_of_lt_of_le q2 hn,q3,by rw [hb _ (by omega)];exact q4⟩
set_option maxHeartbeats 1000000 in
theorem PX{lo:Nat}{D0:DB}{r:aO}{hd:Sl Int}{cs:Sl (Sl Int)}{ls:Sl Int}{h0:Heap}(o:Ms S B n lo base P3 P5 P6 PL D0 r k hd ng na nb){s:DB×Bool}
  (a:oO S B n lo base P3 P5 P6 PL D0 r i0 k hd cs ls ng na nb h0 s h) (hVb:base<=V) (Wi:V<h.next) (hV:h.get V=some (.cells (vs.map iv))) (D3:vs.length=k) (Nn:jo n vs=true)
  (hK:∀ h',oO S B n lo base P3 P5 P6 PL D0 r i0 k hd cs ls ng na nb h0 (sr n r vs s) h'->(∀ b,base<=b->b<h.next->h'.get b=h.get b)->h.next<=h'.next->K (.ret (.bool true)) h'=true) :
  Sem TP 146 ([]++([.slice V 0 vs.length 1]++[.ptr PL 0,.ptr P3 0,.ptr P6 0,.ptr P5 0])) h K:=by
 obtain ⟨l1,l2,l3,l4,l5,l6⟩:=o.low;obtain ⟨EO,IK,p0,By,aa6⟩:=o.head;have hL:=a.hL;simp only [bR] at hL;simp only [nil_append,cons_append];refine F.qp ?_;rw [F.rz];simp only [aR,reduceAdd,reduceEqDiff,reduceIte,aj hL];have sI:∀ p ∈ placesOf (varsOf r) r.args.l,p<vs.length:=by rw [D3,o.hkk];exact qu uL
 have qv:(placesOf (varsOf r) r.args.l).length=r.args.l.length:=by unfold placesOf;simp
 refine ah (Mn (ps:=placesOf (varsOf r) r.args.l) hV Wi rfl o.hhd sI (by rw [qv];omega) fun h3 t1 x3 t2=>?_);have lt0:=a.lt;have a3:=oO.gj o a (fun b hb=>x3.get b (by omega)) x3.next
 obtain ⟨p,hp,Xx,aem⟩:=a3.NF.get By;have hL3:=a3.hL;simp only [bR] at hL3;have yu:=rD vs (placesOf (varsOf r) r.args.l);have hin:=uN Nn sI;rw [<- yu];have Re:sr n r vs s=if p.2.getD (nc n (ep vs (placesOf (varsOf r) r.args.l))) false=true then s else (kO s.1 r.name p.1 (p.2.set (nc n (ep vs (placesOf (varsOf r) r.args.l))) true),true):=by unfold sr;rw [hp]
 have EP:nc n (ep vs (placesOf (varsOf r) r.args.l))<p.2.length:=by
  have:=wP hin;rw [yu,qv] at this;omega
 have oN:p.2[nc n (ep vs (placesOf (varsOf r) r.args.l))]?=some (p.2.getD (nc n (ep vs (placesOf (varsOf r) r.args.l))) false):=by rw [getD_eq_getElem?_getD,eA EP];rfl
 obtain ⟨b1,b2,b3,b4⟩:=a3.hD.Fw r.name p hp;have PY:∀ {K:Out->Heap->Bool},K (.ret (.int .i64 ((nc n (ep vs (placesOf (varsOf r) r.args.l)):Nat):Int))) h3=true->Sem TP 101 [.ptr S 0,.slice h.next 0 (ep vs (placesOf (varsOf r) r.args.l)).length 1] h3 K:=fun hk=>As a3.hS o.n1 t1 (by rw [yu,qv];exact IK) (by rw [yu,qv];exact EO) hin hk;generalize nc n (ep vs (placesOf (varsOf r) r.args.l))=rk at Re EP oN PY;simp only [aR,reduceAdd,reduceEqDiff,reduceIte,aj a3.h3,cq,aj a3.hS,aj hL3,a3.hD.look hp];refine ah (PY ?_);simp only [aR,reduceAdd,reduceEqDiff,reduceIte,nr EP,G4 b4 oN]
 cases Xr:p.2.getD rk false with
 |true=>
  rw [Xr,if_pos rfl] at Re;simp only [Bool.not_true,aJ];rw [Re] at hK;exact hK h3 a3 (fun b _ b2=>x3.get b b2) x3.next
 |false=>
  rw [Xr,if_neg (by simp)] at Re;simp only [Bool.not_false,aK,aj a3.h3,aR,reduceAdd,reduceEqDiff,reduceIte];refine ah (PY ?_);obtain ⟨w1,w2,w3,w4,w5,w6⟩:=o.rows r.name p0 By;rw [<- Xx] at w1 w2 w3 w4 w5 w6;obtain ⟨y1,y2,y3,y4,y5⟩:=o.six;have lN:=a3.hD.set hp (d:=p.2.set rk true) (by simp);have Wk:=IS (v:=true) b4 EP;have g6:(h3.set p.1 (.cells ((p.2.set rk true).map bv))).get P6=some (.cells [.bool s.2]):=by rw [Heap.aN,if_neg (Ne.symm w5)];exact a3.h6
  have Ts:aY 1 (.ptr P6 0) (.bool true) (h3.set p.1 (.cells ((p.2.set rk true).map bv)))=some ((h3.set p.1 (.cells ((p.2.set rk true).map bv))).set P6 (.cells [.bool true])):=by
   rw [cF (n:=1) g6 rfl rfl (by simp)];rfl
  have q:∀ b,b≠p.1->b≠P6->((h3.set p.1 (.cells ((p.2.set rk true).map bv))).set P6 (.cells [.bool true])).get b=h3.get b:=fun b hb1 hb2=>by rw [Heap.aN,if_neg hb2,Heap.aN,if_neg hb1]
  have q6:((h3.set p.1 (.cells ((p.2.set rk true).map bv))).set P6 (.cells [.bool true])).get P6=some (.cells [.bool true]):=by rw [Heap.aN,if_pos rfl]
  have qn:((h3.set p.1 (.cells ((p.2.set rk true).map bv))).set P6 (.cells [.bool true])).next=h3.next:=by rw [Heap.bt,Heap.bt]
  have hD':eo (kO s.1 r.name p.1 (p.2.set rk true)) ((h3.set p.1 (.cells ((p.2.set rk true).map bv))).set P6 (.cells [.bool true])) B lo:=by
   obtain ⟨es,ck,m,e1,e2,e3⟩:=lN.ex;refine ⟨⟨es,ck,m,by rw [Heap.aN,if_neg (Ne.symm y2)];exact e1,e2,e3⟩,fun nm p' B6=>?_,lN.inj,by rw [Heap.bt];exact lN.lt⟩;obtain ⟨c1,c2,c3,c4⟩:=lN.Fw nm p' B6;obtain ⟨p0',d1,d2,_⟩:=(a3.NF.set hp (d:=p.2.set rk true) (by simp)).back B6;have:=(o.rows nm p0' d1).2.2.2.2.1;exact ⟨c1,by rw [Heap.bt];exact c2,c3,by rw [Heap.aN,if_neg (by rw [d2];exact this)];exact c4⟩
  simp only [aR,reduceAdd,reduceEqDiff,reduceIte,nr EP,Wk,Ts];generalize ((h3.set p.1 (.cells ((p.2.set rk true).map bv))).set P6 (.cells [.bool true]))=H at q q6 qn hD' ⊢
  have aH:oO S B n lo base P3 P5 P6 PL D0 r i0 k hd cs ls ng na nb h0 (sr n r vs s) H:=by
   rw [Re];exact ⟨by rw [q S (Ne.symm w2) (Ne.symm y1)];exact a3.hS,hD',a3.NF.set hp (by simp),by rw [q P3 (Ne.symm w3) (Ne.symm y3)];exact a3.h3,by rw [q P5 (Ne.symm w4) (Ne.symm y4)];exact a3.h5,q6,by rw [q PL (Ne.symm w6) (Ne.symm y5)];exact a3.hL,by rw [qn];exact a3.lt,fun b b1 b2 b3=>by rw [q b (by rw [Xx];exact b3 _ _ By) b2];exact a3.old b b1 b2 b3⟩
  have hLH:=aH.hL;simp only [bR] at hLH;simp only [aj aH.h5,aj hLH,Mq,aR,reduceAdd,reduceEqDiff,reduceIte,fA];refine ah (o.note i0 r k hd cs ls _ H _ fun h9 x9=>?_);simp only [aR,reduceAdd,reduceEqDiff,reduceIte];have ltH:=aH.lt;have n9:=x9.next
  exact hK h9 (oO.gj o aH (fun b hb=>x9.get b (by omega)) n9) (fun b b1 b2=>by have:=x3.next;rw [x9.get b (by omega),q b (by omega) (by omega),x3.get b b2]) (by have:=x3.next;omega)
theorem KP{lo:Nat}{D0:DB}{r:aO}{hd:Sl Int}{cs:Sl (Sl Int)}{ls:Sl Int}{h0:Heap}(o:Ms S B n lo base P3 P5 P6 PL D0 r k hd ng na nb)(V0:Nat)(hV0:base<=V0) :
  Tt (DB×Bool) (oO S B n lo base P3 P5 P6 PL D0 r i0 k hd cs ls ng na nb h0) (fun s=>s.1) (sr n r) S B n lo base k r 146 [] [.ptr PL 0,.ptr P3 0,.ptr P6 0,.ptr P5 0] V0:=
 ⟨o.n1,o.xh,o.low.1,fun s h a=>⟨a.hS,a.hD,o.ask _ a.NF⟩,fun s h h' a MP hb hn=>oO.gj o a (fun b eW=>hb b (by omega) (by omega)) hn,fun s h vs K a h1 h2 h3 h4 h5 hK=>PX o a h1 h2 h3 h4 h5 hK⟩
theorem Dj{σ:Type}{pR:σ->DB}{tP:List Int->σ->σ}{n:Nat}{r:aO}{k:Nat}{Q:σ->Prop}(hQ:∀ vs s,vs.length=k->jo n vs=true->Q s->Q (tP vs s)):∀ (m v:Nat) (vs:List Int) (s:σ),vs.length=k->jo n vs=true->Q s ->
  ((ij pR tP n r m v vs s).1.length=k/\jo n (ij pR tP n r m v vs s).1=true)/\Q (ij pR tP n r m v vs s).2
 |0,v,vs,s,h1,h2,h3=>⟨⟨h1,h2⟩,hQ vs s h1 h2 h3⟩
 |m+1,v,vs,s,h1,h2,h3=>by
  refine ju (P:=fun (a:List Int×σ)=>(a.1.length=k/\jo n a.1=true)/\Q a.2) ⟨⟨h1,h2⟩,h3⟩ fun a x hx ha=>?_;have UT:=mem_range.1 hx;have h3:(a.1.set v (x:Int)).length=k:=by rw [length_set];exact ha.1.1
  have h4:=rE ha.1.2 v UT;unfold kQ;split
  ·exact Dj hQ m (v+1) _ _ h3 h4 ha.2
  ·exact ⟨⟨h3,h4⟩,ha.2⟩
theorem rF{pR:σ->DB}{tP:List Int->σ->σ}{r:aO}{Q:σ->Prop}(n1:1<=n)(hQ:∀ vs s,vs.length=k->jo n vs=true->Q s->Q (tP vs s)){s:σ}(hs:Q s):Q (vU pR tP n r k s):=by
 unfold vU;split
 ·exact (Dj hQ k 0 _ _ length_replicate (BE n1 k) hs).2
 ·exact hs
structure yw where
 i:Int
 r:aO
 hd:Sl Int
 cs:Sl (Sl Int)
 ls:Sl Int
def tQ(p:yw):List AV:=bR p.i p.r (varsOf p.r).length (ak encI 1 p.hd) (ak cU 1 p.cs) (ak encI 1 p.ls)
theorem FJ(p:yw):(tQ p).length=8:=rfl
theorem FK(p:yw):bw (tQ p)=true:=zC _ _ _ _ _ _
structure yw.ok (p:yw):Prop where
 mc:p.r.mc
 NC:(varsOf p.r).length<=12
 hd:p.hd.l=jf (varsOf p.r) p.r.args.l
 cs:p.cs.l.map Sl.l=p.r.body.l.map (fun c=>jf (varsOf p.r) c.args.l)
 ls:p.ls.l=p.r.body.l.map (fun c=>iE (placesOf (varsOf p.r) c.args.l))
def kG(n:Nat)(r:aO)(s:DB×Bool):DB×Bool:=vU (fun s=>s.1) (sr n r) n r (varsOf r).length s
def lY(n:Nat)(rs:List aO)(s:DB×Bool):DB×Bool:=rs.foldl (fun s r=>kG n r s) s
theorem KQ{rs:List aO}{i:Nat}{r:aO}(hr:rs[i]?=some r)(s:DB×Bool):lY n (rs.take (i+1)) s=kG n r (lY n (rs.take i) s):=by
 unfold lY;rw [take_add_one,hr];simp
inductive Reach (n:Nat) (rs:List aO) (D0:DB):DB->Prop
 |refl:Reach n rs D0 D0
 |step (D:DB):Reach n rs D0 D->Reach n rs D0 (lY n rs (D,false)).1
theorem G7:∀ (l:List Bool) (i:Nat),l[i]?=some false->(l.set i true).count false<l.count false
 |[],i,h=>by simp at h
 |b :: l,0,h=>by
  simp only [getElem?_cons_zero,Option.some.injEq] at h;subst h;simp
 |b :: l,i+1,h=>by
  rw [getElem?_cons_succ] at h;have:=G7 l i h;rw [set_cons_succ,count_cons,count_cons];omega
def Wm(D:DB)(nm:b7):Nat:=match D nm with|none=>0|some p=>p.2.count false
def Dk(names:List b7)(D:DB):Nat:=(names.map (Wm D)).sum
structure I5 (names:List b7) (D0 D:DB) (s:DB×Bool):Prop where
 NF:eB s.1 D0
 le:Dk names s.1<=Dk names D
 lt:s.2=true->Dk names s.1<Dk names D
 same:s.2=false->s.1=D
theorem PZ{names:List b7}{D0 D:DB}{r:aO}(hin:r.name ∈ names)(hk:k=(varsOf r).length)(hh:∃ p,D0 r.name=some p/\p.2.length=n ^ r.args.l.length){s:DB×Bool}(D3:vs.length=k)(Nn:jo n vs=true)(q:I5 names D0 D s):I5 names D0 D (sr n r vs s):=by
 obtain ⟨p0,By,Xt⟩:=hh;obtain ⟨p,hp,_,hl⟩:=q.NF.get By;have sI:∀ p ∈ placesOf (varsOf r) r.args.l,p<vs.length:=by rw [D3,hk];exact qu uL
 have qv:(placesOf (varsOf r) r.args.l).length=r.args.l.length:=by unfold placesOf;simp
 have EP:nc n (ep vs (placesOf (varsOf r) r.args.l))<p.2.length:=by
  have:=wP (uN Nn sI);rw [rD,qv] at this;omega
 have Re:sr n r vs s=if p.2.getD (nc n (ep vs (placesOf (varsOf r) r.args.l))) false=true then s else (kO s.1 r.name p.1 (p.2.set (nc n (ep vs (placesOf (varsOf r) r.args.l))) true),true):=by unfold sr;rw [hp]
 rw [Re];generalize nc n (ep vs (placesOf (varsOf r) r.args.l))=rk at EP ⊢;split
 ·exact q
 ·rename_i hb
  have oN:p.2[rk]?=some false:=by
   rw [getD_eq_getElem?_getD,eA EP] at hb;rw [eA EP];simp only [getD_some,not_eq_true] at hb;rw [hb]
  have hlt:Dk names (kO s.1 r.name p.1 (p.2.set rk true))<Dk names s.1:=by
   refine ew.JY (fun nm=>?_) (t:=r.name) ?_ hin
   ·unfold Wm kO;by_cases e:nm=r.name
    ·subst e;rw [if_pos rfl,hp];exact Nat.le_of_lt (G7 _ _ oN)
    ·rw [if_neg e];exact dM _
   ·unfold Wm kO;rw [if_pos rfl,hp];exact G7 _ _ oN
  have:=q.le;exact ⟨q.NF.set hp (by simp),by show Dk names (kO s.1 r.name p.1 (p.2.set rk true))<=_;omega,fun _=>by show Dk names (kO s.1 r.name p.1 (p.2.set rk true))<_;omega,fun h=>by cases h⟩
theorem I6{names:List b7}{D0 D:DB}{r:aO}(n1:1<=n)(hin:r.name ∈ names)(hh:∃ p,D0 r.name=some p/\p.2.length=n ^ r.args.l.length){s:DB×Bool}(q:I5 names D0 D s):I5 names D0 D (kG n r s):=
 rF n1 (fun vs s h1 h2 h3=>PZ hin rfl hh h1 h2 h3) q
theorem Av(nm:b7)(xs:List b7):mj nm xs=(ef nm&&lX xs):=by
 unfold mj lX;rw [Bool.and_comm (xs.all ef)]
def jx(r:aO):Bool:=ef r.name&&(lX r.args.l&&(decide (r.body.l.length<=20)&&(r.body.l.all gG&&decide ((varsOf r).length<=12))))
theorem cO{r:aO}(kV:r.ok)(hf:r.mc){h:Heap}{K:Out->Heap->Bool}(hK:K (.ret (.bool (jx r))) h=true) :
  Sem TP 112 [.agg [.str r.name,ak encS 1 r.args,ak bM 4 r.body]] h K:=by
 refine Sem.data (r:=.bool (jx r)) ?_ (by have:=fN r;simpa [aP,AV.cN,AV.pure] using this) hK;clear hK;have Au:r.body.l.length<=cM:=kV.2.2.2.1;refine F.CF ?_;rw [F.Es];have g0:(Heap.alloc Heap.empty (.cells (aP r))).get 0=some (.cells (aP r)):=aB _ _;have gn:(Heap.alloc Heap.empty (.cells (aP r))).next=1:=rfl
 have hb:eX (.agg [.str r.name,ak encS 1 r.args,ak bM 4 r.body])=some (aP r):=cY (j9 r);simp only [hb,aq,bT];generalize (Heap.alloc Heap.empty (.cells (aP r)))=H at g0 gn ⊢;have fin:∀ (b:Bool) h',b=jx r->pO (.bool (jx r)) (.ret (.bool b)) h'=true:=fun b h' hb=>by rw [hb];exact fY rfl
 generalize pO (.bool (jx r))=R at fin ⊢;simp only [aR,reduceAdd,reduceEqDiff,reduceIte,aj g0,aP];refine ah (ej ?_);simp only [aR,reduceAdd,reduceEqDiff,reduceIte]
 cases hn:ef r.name with
 |false=>simp only [Bool.not_false,aK];exact fin _ _ (by simp [jx,hn])
 |true=>
 simp only [Bool.not_true,aJ,aR,reduceAdd,reduceEqDiff,reduceIte,aj g0,aP];refine ah (dN kV.2.1 ?_);simp only [aR,reduceAdd,reduceEqDiff,reduceIte]
 cases P0:lX r.args.l with
 |false=>simp only [Bool.not_false,aK];exact fin _ _ (by simp [jx,P0])
 |true=>
 simp only [Bool.not_true,aJ,aR,reduceAdd,reduceEqDiff,reduceIte,aj g0,aP];by_cases uH:20<r.body.l.length
 ·simp only [fy (by omega:(20:Int)<(r.body.l.length:Int)),aK];exact fin _ _ (by simp [jx,show ¬ r.body.l.length<=20 by omega])
 simp only [eR (by omega:¬ (20:Int)<(r.body.l.length:Int)),aJ];have aen:r.body.l.length<=20:=by omega
 refine aD 0 r.body.l.length (zero_le _) (fun i e h'=>bA H h'/\e 1 = .ptr 0 0/\e 3 = .int .i64 (i:Int)/\(r.body.l.take i).all gG=true) ⟨bA.refl _,rfl,rfl,rfl⟩ ?_ ?_
 ·rintro i e h' _ hi ⟨x1,e1,e3,ht⟩ K' uO hx hr hp;have hv:r.body.l[i]?=some r.body.l[i]:=eA hi;generalize r.body.l[i]=c at hv;have I7:=kV.2.2.2.2 c (ig hv);have q0:h'.get 0=some (.cells (aP r)):=by rw [x1.get 0 (by omega)];exact g0
  obtain ⟨H2,qH,k1,ko,kn⟩:=cu (h:=h') (zs:=[.int .i64 0,.bool false,.str [],.ax]) (cs:=bM c) (n:=4) rfl rfl (iw c);have x2:bA H H2:=x1.trans ⟨by omega,fun b hb=>ko b (by omega)⟩;have no:gG c=false->∀ h',R (.ret (.bool false)) h'=true:=fun hc h'=>fin _ _ (by simp [jx,all_false hv hc]);rw [F.cO.aT];simp only [e1,e3,aR,reduceAdd,reduceEqDiff,reduceIte,aj q0,aP,bh hi,aV r.body hi,dF iu hv,qH];simp only [aR,reduceAdd,reduceEqDiff,reduceIte,aj k1,bM,cw];by_cases k0:c.kind=0
  ·have UU:gG c=(ef c.name&&lX c.args.l):=by unfold gG;rw [if_pos k0,Av]
   simp only [fy k0,aK,aR,reduceAdd,reduceEqDiff,reduceIte,aj k1,bM];refine ah (ej ?_);simp only [aR,reduceAdd,reduceEqDiff,reduceIte]
   cases n1:ef c.name with
   |false=>
    simp only [Bool.not_false,aK];rw [hr,F.cO.bC];exact no (by rw [UU,n1];rfl) _
   |true=>
   simp only [Bool.not_true,aJ,aR,reduceAdd,reduceEqDiff,reduceIte,aj k1,bM];refine ah (dN I7.2.1 ?_);simp only [aR,reduceAdd,reduceEqDiff,reduceIte]
   cases n2:lX c.args.l with
   |false=>
    simp only [Bool.not_false,aK];rw [hr,F.cO.bC];exact no (by rw [UU,n2,Bool.and_false]) _
   |true=>
   simp only [Bool.not_true,aJ,aI hi Au,aq];exact uO _ _ ⟨x2,e1,rfl,jm hv ht (by rw [UU,n1,n2];rfl)⟩
  simp only [eR k0,aJ]
  have J:∀ (e:Env) (b:Bool),e 1 = .ptr 0 0->e 3 = .int .i64 (i:Int)->e 4 = .ptr h'.next 0->e 44 = .bool b->(b=true↔(c.kind=1\/c.kind=2))->F.cO.J0 K' ⟨e,67,[],H2⟩=true:=by
   intro e b e1 e3 e4 e44 hb;rw [F.cO.CE];simp only [e4,e44,aR,reduceAdd,reduceEqDiff,reduceIte]
   cases b with
   |false=>
    simp only [aJ];have:¬ (c.kind=1\/c.kind=2):=fun h=>by have:=hb.2 h;cases this
    rw [hr,F.cO.bC];exact no (by unfold gG;rw [if_neg k0,if_neg this]) _
   |true=>
    have hk:=hb.1 rfl;have Oq:gG c=(decide (c.name = [])&&(decide (c.args.l.length=2)&&c.args.l.all ef)):=by simp only [gG,if_neg k0,if_pos hk]
    simp only [aK,aR,reduceAdd,reduceEqDiff,reduceIte,aj k1,bM,rA];by_cases hn:c.name = []
    ·simp only [fy hn,Bool.not_true,aJ,aR,reduceAdd,reduceEqDiff,reduceIte,aj k1,bM,cw];by_cases h2:c.args.l.length=2
     ·simp only [fy (by omega:(c.args.l.length:Int)=2),Bool.not_true,aJ,aR,reduceAdd,reduceEqDiff,reduceIte,aj k1,bM];refine ah (dN I7.2.1 ?_);simp only [aR,reduceAdd,reduceEqDiff,reduceIte];have xj:lX c.args.l=c.args.l.all ef:=by unfold lX;rw [fy (by omega:c.args.l.length<=12),Bool.and_true]
      rw [xj]
      cases n2:c.args.l.all ef with
      |false=>
       simp only [Bool.not_false,aK];rw [hr,F.cO.bC];exact no (by rw [Oq,n2,Bool.and_false,Bool.and_false]) _
      |true=>
       simp only [Bool.not_true,aJ,e3,aI hi Au,aq];exact uO _ _ ⟨x2,e1,rfl,jm hv ht (by rw [Oq,n2];simp [hn,h2])⟩
     ·simp only [eR (by omega:¬ (c.args.l.length:Int)=2),Bool.not_false,aK];rw [hr,F.cO.bC];exact no (by rw [Oq];simp [h2]) _
    ·simp only [eR hn,Bool.not_false,aK];rw [hr,F.cO.bC];exact no (by rw [Oq];simp [hn]) _
  by_cases k1':c.kind=1
  ·simp only [fy k1',aK];exact J _ true e1 e3 rfl rfl (by simp [k1'])
  ·simp only [eR k1',aJ];exact J _ (decide (c.kind=2)) e1 e3 rfl rfl (by simp [k1'])
 ·rintro e h' ⟨x1,e1,e3,ht⟩ K' hx;have q0:h'.get 0=some (.cells (aP r)):=by rw [x1.get 0 (by omega)];exact g0
  rw [F.cO.aT];simp only [e1,e3,aR,reduceAdd,reduceEqDiff,reduceIte,aj q0,aP,aW];rw [hx,F.cO.aG];simp only [e1,aR,reduceAdd,reduceEqDiff,reduceIte,aj q0,aP,rC];refine ah (bN hf fun x jG=>?_);simp only [aR,reduceAdd,reduceEqDiff,reduceIte,jG];rw [kf (dM _)] at ht;refine fin _ _ ?_;unfold jx;rw [hn,P0,fy aen,ht];by_cases IK:(varsOf r).length<=12
  ·rw [fy IK,fy (by omega:((varsOf r).length:Int)<=12)];rfl
  ·rw [eR IK,eR (by omega:¬ ((varsOf r).length:Int)<=12)];rfl
def dX(cs:List eO):List (b7×Int):=(cs.filter fun c=>decide (c.kind=0)).map fun c=>(c.name,(c.args.l.length:Int))
def tT(r:aO):List (b7×Int):=(r.name,(r.args.l.length:Int)) :: dX r.body.l
def cB(rs:List aO):List (b7×Int):=rs.flatMap tT
theorem Dl{cs:List eO}{c:eO}(hc:cs[j]?=some c):dX (cs.take (j+1))=dX (cs.take j)++if c.kind=0 then [(c.name,(c.args.l.length:Int))] else []:=by
 unfold dX;rw [take_add_one,hc,toList_some,filter_append,map_append];by_cases h:c.kind=0<;>simp [h]
theorem pT(cs:List eO):(dX cs).length<=cs.length:=by
 unfold dX;rw [length_map];exact length_filter_le _ _
theorem tU:∀ rs:List aO,(∀ r ∈ rs,r.body.l.length<=20)->(cB rs).length<=rs.length*21
 |[],_=>dM _
 |r :: rs,h=>by
  have h1:=tU rs fun q hq=>h q (mem_cons_of_mem _ hq);have h2:=pT r.body.l;have h3:=h r mem_cons_self;show (tT r++cB rs).length<=_;unfold tT;rw [length_append,length_cons,length_cons];omega
theorem cL{rules:Sl aO}(sq:rules.l.length<=60)(uH:∀ r ∈ rules.l,r.body.l.length<=20){h:Heap}{K:Out->Heap->Bool}(hK:∀ x:Sl (b7×Int),x.l=cB rules.l->K (.ret (ak nh 2 x)) h=true) :
  Sem TP 113 [ak aP 3 rules] h K:=by
 have hbig:rules.l.length<=cM:=by unfold cM;omega
 have hmx:cG=140737488355328:=rfl
 have main:Sem TP 113 [ak aP 3 rules] Heap.empty (fun o h'=>yes (∃ v,∃ x:Sl (b7×Int),o = .ret v/\x.l=cB rules.l/\Fz true h' v (ak nh 2 x))):=by
  refine F.AS ?_;rw [F.CB];refine aD 0 rules.l.length (zero_le _) (fun i e h'=>∃ a,Own nh 2 0 h' a (cB (rules.l.take i))/\e 0=ak aP 3 rules/\e 3=a/\e 4 = .int .i64 (i:Int)) ⟨.ax,.nil,rfl,rfl,rfl⟩ ?_ ?_
  ·rintro i e h' _ hi ⟨a,o,e0,e3,e4⟩ K' hn hx hr hp;have hv:rules.l[i]?=some rules.l[i]:=eA hi;generalize rules.l[i]=r at hv;have aaU:=uH r (ig hv);have Au:r.body.l.length<=cM:=by unfold cM;omega
   have ld:∀ j,j<3->∀ h,ag none (.dO (rules.l.flatMap aP) (i*3+j)) h=(aP r)[j]?:=fun j hj h=>fI gv hv hj;have ld0:∀ h,ag none (.dO (rules.l.flatMap aP) (i*3)) h=some (.str r.name):=fun h=>ld 0 (by omega) h
   have hal:(cB (rules.l.take i)).length<=1260:=by
    have h1:=tU (rules.l.take i) fun q hq=>uH q (mem_of_mem_take hq);have h2:=length_take_le i rules.l;omega
   obtain ⟨a1,h1,p1,p2,p3,p4,p5,p6⟩:=o.push oI (fun x=>rfl) (zero_le _) (bytes:=24) (by omega) (r.name,(r.args.l.length:Int));rw [F.cL.aT];simp only [e0,e3,e4,aR,reduceAdd,reduceEqDiff,reduceIte,bh hi,aV rules hi,ld0,ld 1 (by omega),aP,Pz,PA,p1]
   refine aD 0 r.body.l.length (zero_le _) (fun j e h2=>∃ a,Own nh 2 0 h2 a (cB (rules.l.take i)++(r.name,(r.args.l.length:Int)) :: dX (r.body.l.take j))/\e 0=ak aP 3 rules/\e 3=a/\e 4 = .int .i64 (i:Int)/\e 5 = .int .i64 (j:Int))
    ⟨a1,by simpa [dX] using p2,e0,rfl,e4,rfl⟩ ?_ ?_
   ·rintro j e h2 _ hj ⟨a,o,e0,e3,e4,e5⟩ K2 pV gi rN FD;have hc:r.body.l[j]?=some r.body.l[j]:=eA hj;generalize r.body.l[j]=c at hc;obtain ⟨H2,qH,k1,ko,kn⟩:=cu (h:=h2) (zs:=[.int .i64 0,.bool false,.str [],.ax]) (cs:=bM c) (n:=4) rfl rfl (iw c);have x2:bA h2 H2:=⟨by omega,fun b hb=>ko b (by omega)⟩
    have iG:=Dl hc;rw [F.cL.dh];simp only [e0,e3,e4,e5,aR,reduceAdd,reduceEqDiff,reduceIte,aV rules hi,ld 2 (by omega),aP,bh hj,aV r.body hj,dF iu hc,qH];simp only [aR,reduceAdd,reduceEqDiff,reduceIte,aj k1,bM,cw];by_cases k0:c.kind=0
    ·rw [if_pos k0] at iG
     have hcl:(dX (r.body.l.take j)).length<=20:=by
      have h1:=pT (r.body.l.take j);have h2:=length_take_le' j r.body.l;omega
     obtain ⟨a2,h3,s1,s2,s3,s4,s5,s6⟩:=(o.ext x2).push oI (fun x=>rfl) (zero_le _) (bytes:=24) (by rw [length_append,length_cons];omega) (c.name,(c.args.l.length:Int));simp only [fy k0,aK,aR,reduceAdd,reduceEqDiff,reduceIte,aj k1,bM,Pz,PA,s1,aI hj Au];refine pV _ _ ⟨a2,?_,e0,rfl,e4,rfl⟩;rw [iG];simpa using s2
    ·rw [if_neg k0,append_nil] at iG;simp only [eR k0,aJ,aI hj Au,aq];exact pV _ _ ⟨a,by rw [iG];exact o.ext x2,e0,e3,e4,rfl⟩
   ·rintro e h2 ⟨a,o,e0,e3,e4,e5⟩ K2 gi;rw [F.cL.dh];simp only [e0,e4,e5,aR,reduceAdd,reduceEqDiff,reduceIte,aV rules hi,ld 2 (by omega),aP,aW];rw [gi,F.cL.cx];simp only [e4,aR,reduceAdd,reduceEqDiff,reduceIte,aI hi hbig];refine hn _ _ ⟨a,?_,e0,e3,rfl⟩;rw [kf (dM _)] at o
    have:cB (rules.l.take (i+1))=cB (rules.l.take i)++(r.name,(r.args.l.length:Int)) :: dX r.body.l:=by
     unfold cB;rw [take_add_one,hv];simp [tT]
    rw [this];exact o
  ·rintro e h' ⟨a,o,e0,e3,e4⟩ K' hx;rw [F.cL.aT];simp only [e0,e4,aR,reduceAdd,reduceEqDiff,reduceIte,aW];rw [hx,F.cL.aG];rw [kf (dM _)] at o;simp only [bK,reduceEqDiff,reduceIte,e3]
   obtain ⟨x,jG,gi⟩:=o.KF (fun v y hy=>by
    simp only [nh,mem_cons,not_mem_nil,_root_.or_false] at hy
    rcases hy with rfl|rfl<;>exact .scalar _ rfl)
   exact ct.2 ⟨a,x,rfl,jG,gi⟩
 refine main.frozen (by simp [AV.cN,cc fN]) fun o h' ho=>?_;obtain ⟨v,x,rfl,hx,hf⟩:=ct.1 ho;exact ⟨v,_,rfl,hf,hK x hx⟩
theorem Aw{f:St->(AX->St->Bool)->Bool}{K:AX->St->Bool}{defs:List oV}{e0:Env}{h0:Heap}(I:Nat->Env->Heap->Prop)(m:Nat)(hI:I m e0 h0)
  (step:∀ m e h,I m e h->∀ K':AX->St->Bool,(∀ m' e' h',m'<m->I m' e' h'->K' .normal ⟨e',n,defs,h'⟩=true)->(∀ id s,K' (.exit id) s=K (.exit id) s)->(∀ s,K' .ret s=K .ret s)->f ⟨e,n,defs,h⟩ K'=true):bW f ⟨e0,n,defs,h0⟩ K=true:=
 k7 I m hI fun m e h hi=>step m e h hi _ (fun m' e' h' hlt uX=>qS (I:=I) m' hlt uX) (fun _ _=>rfl) (fun _=>rfl)
theorem wT:∀ (l:List b7) (s:b7),(eL l s).length<=l.length+1
 |[],s=>dM _
 |x :: l,s=>by
  have:=wT l s;rw [eL];split
  ·rw [length_cons,length_cons];omega
  ·split
   ·omega
   ·simp
def eF(rs:List aO):List b7:=rs.foldl (fun o r=>eL o r.name) []
theorem NG{rs:List aO}{i:Nat}{r:aO}(hr:rs[i]?=some r):eF (rs.take (i+1))=eL (eF (rs.take i)) r.name:=by
 unfold eF;rw [take_add_one,hr];simp
theorem rT:∀ (rs:List aO) (o:List b7),(rs.foldl (fun o r=>eL o r.name) o).length<=o.length+rs.length
 |[],o=>dM _
 |r :: rs,o=>by
  have h1:=rT rs (eL o r.name);have h2:=wT o r.name;rw [foldl_cons,length_cons];omega
theorem oP(rs:List aO):(eF rs).length<=rs.length:=by
 have:=rT rs [];simpa [eF] using this
theorem oQ:∀ (rs:List aO) (o:List b7),rS o->rS (rs.foldl (fun o r=>eL o r.name) o)
 |[],o,h=>h
 |r :: rs,o,h=>oQ rs _ (vR h r.name)
theorem pH(rs:List aO):rS (eF rs):=oQ rs [] List.Pairwise.nil
theorem rU{s:b7}:∀ (rs:List aO) (o:List b7),s ∈ rs.foldl (fun o r=>eL o r.name) o↔s ∈ o\/s ∈ bF rs
 |[],o=>by simp [bF]
 |r :: rs,o=>by
  rw [foldl_cons,rU rs,rB];simp [bF,_root_.or_assoc]
theorem fO(rs:List aO):s ∈ eF rs↔s ∈ bF rs:=by
 have:=rU (s:=s) rs [];simpa [eF] using this
theorem Ax{l:List b7}(h:rS l):l.Nodup:=by
 unfold rS at h;unfold List.Nodup;exact h.imp fun {a b} rj e=>by subst e;rw [nP] at rj;cases rj
theorem dz{rules:Sl aO}(sq:rules.l.length<=60){h:Heap}{K:Out->Heap->Bool}(hK:∀ x:Sl b7,x.l=eF rules.l->K (.ret (ak encS 1 x)) h=true) :
  Sem TP 35 [ak aP 3 rules] h K:=by
 have hbig:rules.l.length<=cM:=by unfold cM;omega
 have main:Sem TP 35 [ak aP 3 rules] Heap.empty (fun o h'=>yes (∃ v,∃ x:Sl b7,o = .ret v/\x.l=eF rules.l/\Fz true h' v (ak encS 1 x))):=by
  refine F.xX ?_;rw [F.zg];refine aD 0 rules.l.length (zero_le _) (fun i e h'=>∃ a,Own encS 1 0 h' a (eF (rules.l.take i))/\e 0=ak aP 3 rules/\e 3=a/\e 4 = .int .i64 (i:Int)) ⟨.ax,.nil,rfl,rfl,rfl⟩ ?_ ?_
  ·rintro i e h' _ hi ⟨a,o,e0,e3,e4⟩ K' hn hx hr hp;have hv:rules.l[i]?=some rules.l[i]:=eA hi;generalize rules.l[i]=r at hv;have ld:∀ h,ag none (.dO (rules.l.flatMap aP) (i*3)) h=some (.str r.name):=fun h=>fI gv hv (by omega:0<3);have iG:=NG hv;rw [F.dz.aT];simp only [e0,e3,e4,aR,reduceAdd,reduceEqDiff,reduceIte,bh hi,aV rules hi,ld];refine ah (er o (zero_le _) (by have h1:=oP (rules.l.take i);have h2:=length_take_le i rules.l;omega) fun a1 h1 x1 o1=>?_);simp only [aR,reduceAdd,reduceEqDiff,reduceIte,aI hi hbig];exact hn _ _ ⟨a1,by rw [iG];exact o1,e0,rfl,rfl⟩
  ·rintro e h' ⟨a,o,e0,e3,e4⟩ K' hx;rw [F.dz.aT];simp only [e0,e4,aR,reduceAdd,reduceEqDiff,reduceIte,aW];rw [hx,F.dz.aG];rw [kf (dM _)] at o;simp only [bK,reduceEqDiff,reduceIte,e3]
   obtain ⟨x,jG,gi⟩:=o.KF (fun v y hy=>by
    simp only [encS,mem_cons,not_mem_nil,_root_.or_false] at hy
    subst hy;exact .scalar _ rfl)
   exact ct.2 ⟨a,x,rfl,jG,gi⟩
 refine main.frozen (by simp [AV.cN,cc fN]) fun o h' ho=>?_;obtain ⟨v,x,rfl,hx,hf⟩:=ct.1 ho;exact ⟨v,_,rfl,hf,hK x hx⟩
theorem dZ{x:Sl b7}{s:b7}(hx:x.l.length<=cM){h:Heap}{K:Out->Heap->Bool}(zD:∀ i:Nat,x.l[i]?=some s->K (.ret (.int .i64 (i:Int))) h=true)(Dm:s ∉ x.l->K (.ret (.int .i64 (-1))) h=true):Sem TP 128 [ak encS 1 x,.str s] h K:=by
 refine F.AR ?_;rw [F.CA];refine aD 0 x.l.length (zero_le _) (fun i e h'=>h'=h/\e 0=ak encS 1 x/\e 1 = .str s/\e 5 = .int .i64 (i:Int)/\s ∉ x.l.take i) ⟨rfl,rfl,rfl,rfl,by simp⟩ ?_ ?_
 ·rintro i e h' _ hi ⟨rfl,e0,e1,e5,ht⟩ K' hn fW hr hp;have hv:x.l[i]?=some x.l[i]:=eA hi;generalize x.l[i]=t at hv;rw [F.dZ.aT];simp only [e0,e1,e5,aR,reduceAdd,reduceEqDiff,reduceIte,bh hi,aV x hi,jq hv,rA];by_cases hq:t=s
  ·subst hq;simp only [decide_true,aK];rw [hr,F.dZ.bC];exact zD i hv
  ·simp only [eR hq,aJ,aI hi hx,aq];refine hn _ _ ⟨rfl,e0,e1,rfl,?_⟩;rw [take_add_one,hv];simp only [toList_some,mem_append,mem_singleton];exact fun h=>h.elim ht fun h=>hq h.symm
 ·rintro e h' ⟨rfl,e0,e1,e5,ht⟩ K' fW;rw [F.dZ.aT];simp only [e0,e5,aR,reduceAdd,reduceEqDiff,reduceIte,aW];rw [fW,F.dZ.aG];rw [kf (dM _)] at ht;exact Dm ht
end
end Go.AM