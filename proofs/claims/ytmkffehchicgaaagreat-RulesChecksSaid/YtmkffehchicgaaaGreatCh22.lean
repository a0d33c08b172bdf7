/- Parts of a proof, merged out of smaller texts: the abstract machine and what functions do. Conditions: none. -/
import Derived.Test.YtmkffehchicgaaaGreatCh1
import Derived.Test.YtmkffehchicgaaaGreatCh9
import Derived.Test.YtmkffehchicgaaaGreatCh13
import Derived.Test.YtmkffehchicgaaaGreatCh14
set_option linter.unusedSimpArgs false
set_option linter.unusedVariables false
namespace Go.AM
open Go Go.Proofs
noncomputable section
def lK(n:Int):Bool:=(decide (97≤n)&&decide (n≤122))||(decide (65≤n)&&decide (n≤90))
def ud(n:Int):Bool:=decide (48≤n)&&decide (n≤57)
def words:List bC:=[[97,110,100],[111,114],[110,111,116],[115,111,109,101],[97,108,108],[108,102,112],[112,102,112],[116,99],[101,120,105,115,116,115],[116,114,117,101],[102,97,108,115,101]]
def AZ(s:bC):Bool:=words.any fun w=>s==w
theorem vj{n:Int}{h:ag}{K:Out→ag→Bool}(hK:K (.ret (.bool (lK n))) h=true):Sem Tryz.prog 163 [.int .u8 n] h K:=by
 refine F.vX ?_
 rw [F.yj]
 simp only [r9,uV,bindO_some,condB_bool]
 unfold lK at hK
 by_cases h1:97≤n<;>by_cases h2:n≤122<;>by_cases h3:65≤n<;>by_cases h4:n≤90<;>simpa [h1,h2,h3,h4] using hK
theorem Fo{n:Int}{h:ag}{K:Out→ag→Bool}(hK:K (.ret (.bool (ud n))) h=true):Sem Tryz.prog 165 [.int .u8 n] h K:=by
 refine F.yl ?_
 rw [F.Al]
 simp only [r9,uV,bindO_some,condB_bool]
 unfold ud at hK
 by_cases h1:48≤n<;>by_cases h2:n≤57<;>simpa [h1,h2] using hK
theorem vk{n:Int}{h:ag}{K:Out→ag→Bool}(hK:K (.ret (.bool (lK n))) h=true):Sem Tryz.prog 170 [.int .u8 n] h K:=by
 refine F.vY ?_
 rw [F.ym]
 simp only [r9,uV,bindO_some,condB_bool]
 unfold lK at hK
 by_cases h1:97≤n<;>by_cases h2:n≤122<;>by_cases h3:65≤n<;>by_cases h4:n≤90<;>simpa [h1,h2,h3,h4] using hK
theorem Fp{n:Int}{h:ag}{K:Out→ag→Bool}(hK:K (.ret (.bool (ud n))) h=true):Sem Tryz.prog 172 [.int .u8 n] h K:=by
 refine F.yo ?_
 rw [F.An]
 simp only [r9,uV,bindO_some,condB_bool]
 unfold ud at hK
 by_cases h1:48≤n<;>by_cases h2:n≤57<;>simpa [h1,h2] using hK
theorem G3{s:bC}{h:ag}{K:Out→ag→Bool}(hK:K (.ret (.bool (AZ s))) h=true):Sem Tryz.prog 164 [.str s] h K:=by
 refine F.Ak ?_
 rw [F.BU]
 simp only [Aa,bindO_some,condB_bool]
 simp only [AZ,words,List.any_cons,List.any_nil,Bool.or_false] at hK
 repeat (first|exact hK|(generalize (s==_)=b at hK ⊢;cases b<;>simp only [aC,aD,Bool.true_or,Bool.false_or] at hK ⊢<;>try exact hK))
theorem G4{s:bC}{h:ag}{K:Out→ag→Bool}(hK:K (.ret (.bool (AZ s))) h=true):Sem Tryz.prog 171 [.str s] h K:=by
 refine F.Am ?_
 rw [F.BV]
 simp only [Aa,bindO_some,condB_bool]
 simp only [AZ,words,List.any_cons,List.any_nil,Bool.or_false] at hK
 repeat (first|exact hK|(generalize (s==_)=b at hK ⊢;cases b<;>simp only [aC,aD,Bool.true_or,Bool.false_or] at hK ⊢<;>try exact hK))
def okB(b:UInt8):Bool:=lK b.toNat||ud b.toNat
def ec(s:bC):Bool:=match s with
 |[]=>false
 |c :: _=>decide (s.length≤12)&&(lK c.toNat&&(!AZ s&&s.all okB))
theorem ic{α:Type}{p:α→Bool}{l:List α}{i:Nat}{a:α}(ha:l[i]?=some a)(ht:(l.take i).all p=true)(hp:p a=true):(l.take (i+1)).all p=true:=by
 rw [List.take_add_one,ha];simp [ht,hp]
theorem all_false{α:Type}{p:α→Bool}{l:List α}{i:Nat}{a:α}(ha:l[i]?=some a)(hp:p a=false):l.all p=false:=by
 rw [Bool.eq_false_iff]
 intro h
 rw [List.all_eq_true] at h
 have:=h a (List.mem_of_getElem? ha)
 rw [hp] at this;cases this
theorem ee{s:bC}{h:ag}{K:Out→ag→Bool}(hK:K (.ret (.bool (ec s))) h=true):Sem Tryz.prog 116 [.str s] h K:=by
 refine F.Ai ?_
 rw [F.BS]
 cases s with
 |nil=>simpa [ec,mB,oX,ax,af] using hK
 |cons c s'=>
  have h0:(c :: s')[0]?=some c:=rfl
  simp only [mB,oX,DL,bindO_some,condB_bool]
  have h1:decide (((c :: s').length:Int)<1)=false:=by simp;omega
  simp only [h1,aD]
  by_cases h2:(c :: s').length≤12
  ·have h3:decide ((12:Int)<((c :: s').length:Int))=false:=by simp at h2 ⊢;omega
   simp only [h3,aD]
   rw [show jN (.str (c :: s')) (.int .i64 0)=some (.int .u8 (c.toNat:Int)) from zn (i:=0) h0]
   simp only [bindO_some]
   refine ak (vj ?_)
   simp only [outK_ret,mT,bindO_some,condB_bool]
   cases hl:lK c.toNat with
   |false=>simpa [ec,hl] using hK
   |true=>
    simp only [Bool.not_true,aD]
    refine ak (G3 ?_)
    simp only [outK_ret,condB_bool]
    cases hw:AZ (c :: s') with
    |true=>simpa [ec,hl,hw] using hK
    |false=>
     simp only [aD]
     have hn:ec (c :: s')=(c :: s').all okB:=by simp only [ec,hl,hw,Bool.not_false,Bool.true_and];rw [decide_eq_true h2,Bool.true_and]
     rw [hn] at hK
     have h4:((c :: s').take 1).all okB=true:=by simp [okB,hl]
     have h5:1≤(c :: s').length:=by simp
     clear h0 h1 h3 hl hw hn
     generalize (c :: s')=s at hK h2 h4 h5 ⊢
     refine aE 1 s.length h5 (fun i e h'=>h'=h∧e 0 = .str s∧e 3 = .int .i64 (i:Int)∧(s.take i).all okB=true) ⟨rfl,rfl,rfl,h4⟩ ?_ ?_
     ·rintro i e h' _ hi ⟨rfl,e0,e3,ht⟩ K' hn hx hr hp
      have hb:s[i]?=some s[i]:=List.getElem?_eq_getElem hi
      have hlt:decide ((i:Int)<(s.length:Int))=true:=by simp;omega
      rw [F.ee.aN]
      simp only [e0,e3,mB,oX,zn hb,bindO_some,condB_bool,hlt,aC]
      refine ak (vj ?_)
      simp only [outK_ret,mT,bindO_some,condB_bool]
      cases hl:lK s[i].toNat with
      |true=>
       simp only [Bool.not_true,aD,gB (a:=(i:Int)) (b:=1) (by omega) (by omega),bindO_some]
       exact hn _ _ ⟨rfl,e0,rfl,ic hb ht (by simp [okB,hl])⟩
      |false=>
       simp only [Bool.not_false,aC]
       refine ak (Fo ?_)
       simp only [outK_ret,mT,bindO_some,condB_bool]
       cases hd:ud s[i].toNat with
       |true=>
        simp only [Bool.not_true,aD,gB (a:=(i:Int)) (b:=1) (by omega) (by omega),bindO_some]
        exact hn _ _ ⟨rfl,e0,rfl,ic hb ht (by simp [okB,hd])⟩
       |false=>
        simp only [Bool.not_false,aC]
        rw [hr,F.ee.aZ]
        have:s.all okB=false:=all_false hb (by simp [okB,hl,hd])
        rw [this] at hK;exact hK
     ·rintro e h' ⟨rfl,e0,e3,ht⟩ K' hx
      have hlt:decide ((s.length:Int)<(s.length:Int))=false:=by simp
      rw [F.ee.aN]
      simp only [e0,e3,mB,oX,bindO_some,condB_bool,hlt,aD]
      rw [hx,F.ee.aG]
      rw [List.take_of_length_le (Nat.le_refl _)] at ht
      rw [ht] at hK;exact hK
  ·have h3:decide ((12:Int)<((c :: s').length:Int))=true:=by simp at h2 ⊢;omega
   simp only [h3,aC]
   have:ec (c :: s')=false:=by simp only [ec];rw [decide_eq_false h2];rfl
   rw [this] at hK;exact hK
theorem dQ{s:bC}{h:ag}{K:Out→ag→Bool}(hK:K (.ret (.bool (ec s))) h=true):Sem Tryz.prog 135 [.str s] h K:=by
 refine F.Aj ?_
 rw [F.BT]
 cases s with
 |nil=>simpa [ec,Aa,ax,af] using hK
 |cons c s'=>
  have h0:(c :: s')[0]?=some c:=rfl
  have h1:((c :: s')==([]:bC))=false:=rfl
  simp only [mB,Aa,DL,bindO_some,condB_bool,h1,aD]
  by_cases h2:(c :: s').length≤12
  ·have h3:decide ((12:Int)<((c :: s').length:Int))=false:=by simp at h2 ⊢;omega
   simp only [h3,aD]
   rw [show jN (.str (c :: s')) (.int .i64 0)=some (.int .u8 (c.toNat:Int)) from zn (i:=0) h0]
   simp only [bindO_some]
   refine ak (vk ?_)
   simp only [outK_ret,mT,bindO_some,condB_bool]
   cases hl:lK c.toNat with
   |false=>simpa [ec,hl] using hK
   |true=>
    simp only [Bool.not_true,aD]
    refine ak (G4 ?_)
    simp only [outK_ret,condB_bool]
    cases hw:AZ (c :: s') with
    |true=>simpa [ec,hl,hw] using hK
    |false=>
     simp only [aD,mB,bindO_some]
     have hn:ec (c :: s')=(c :: s').all okB:=by simp only [ec,hl,hw,Bool.not_false,Bool.true_and];rw [decide_eq_true h2,Bool.true_and]
     rw [hn] at hK
     have h4:((c :: s').take 1).all okB=true:=by simp [okB,hl]
     have h5:1≤(c :: s').length:=by simp
     clear h0 h1 h3 hl hw hn
     generalize (c :: s')=s at hK h2 h4 h5 ⊢
     refine aE 0 s.length (Nat.zero_le _) (fun i e h'=>h'=h∧e 0 = .str s∧e 23 = .int .i64 (i:Int)∧e 22 = .int .i64 (s.length:Int)∧(s.take i).all okB=true) ⟨rfl,rfl,rfl,rfl,rfl⟩ ?_ ?_
     ·rintro i e h' _ hi ⟨rfl,e0,e3,e22,ht⟩ K' hn hx hr hp
      have hb:s[i]?=some s[i]:=List.getElem?_eq_getElem hi
      have hlt:decide ((i:Int)<(s.length:Int))=true:=by simp;omega
      rw [F.dQ.aN]
      simp only [e0,e3,e22,mB,oX,zn hb,bindO_some,condB_bool,hlt,aC]
      refine ak (vk ?_)
      simp only [outK_ret,mT,bindO_some,condB_bool]
      cases hl:lK s[i].toNat with
      |true=>
       simp only [Bool.not_true,aD,gB (a:=(i:Int)) (b:=1) (by omega) (by omega),bindO_some]
       exact hn _ _ ⟨rfl,e0,rfl,e22,ic hb ht (by simp [okB,hl])⟩
      |false=>
       simp only [Bool.not_false,aC]
       refine ak (Fp ?_)
       simp only [outK_ret,mT,bindO_some,condB_bool]
       cases hd:ud s[i].toNat with
       |true=>
        simp only [Bool.not_true,aD,gB (a:=(i:Int)) (b:=1) (by omega) (by omega),bindO_some]
        exact hn _ _ ⟨rfl,e0,rfl,e22,ic hb ht (by simp [okB,hd])⟩
       |false=>
        simp only [Bool.not_false,aC]
        rw [hr,F.dQ.aZ]
        have:s.all okB=false:=all_false hb (by simp [okB,hl,hd])
        rw [this] at hK;exact hK
     ·rintro e h' ⟨rfl,e0,e3,e22,ht⟩ K' hx
      have hlt:decide ((s.length:Int)<(s.length:Int))=false:=by simp
      rw [F.dQ.aN]
      simp only [e0,e3,e22,mB,oX,bindO_some,condB_bool,hlt,aD]
      rw [hx,F.dQ.aG]
      rw [List.take_of_length_le (Nat.le_refl _)] at ht
      rw [ht] at hK;exact hK
  ·have h3:decide ((12:Int)<((c :: s').length:Int))=true:=by simp at h2 ⊢;omega
   simp only [h3,aC]
   have:ec (c :: s')=false:=by simp only [ec];rw [decide_eq_false h2];rfl
   rw [this] at hK;exact hK
theorem eT{x:Sl Int}{i:Nat}{v:Int}(hv:x.l[i]?=some v){h:ag}:ai none (.iptr (x.l.flatMap encI) (i*1)) h=some (.int .i64 v):=by
 rw [oW od hv];rfl
def gQ(n:Int)(l:List Int):Bool:=l.all fun x=>!decide (x<0)&&!decide (n≤x)
def iv(n:Int):AV:=.int .i64 n
theorem pG(d:List Int):d.map iv=d.flatMap encI:=by
 induction d with
 |nil=>rfl
 |cons a d ih=>rw [List.map_cons,List.flatMap_cons,ih];rfl
theorem jy{b i n:Nat}{k:IntKind}(h:i<n):cS 1 (.slice b 0 n 1) (.int k (i:Int))=some (.ptr b i):=by simp [cS,asNat,h]
theorem kC{b i:Nat}{h:ag}{d:List Int}{v:Int}(hb:h.get b=some (.cells (d.map iv)))(hv:d[i]?=some v):ai none (.ptr b i) h=some (.int .i64 v):=by
 rw [an hb,nZ,List.getElem?_map,hv];rfl
theorem mV{b i:Nat}{h:ag}{d:List Int}{v:Int}(hb:h.get b=some (.cells (d.map iv)))(hi:i<d.length):bL 1 (.ptr b i) (.int .i64 v) h=some (h.set b (.cells ((d.set i v).map iv))):=by
 rw [dV (n:=1) hb rfl rfl (by simp;omega),List.map_set];rfl
theorem OR(n:Nat):iz [.int .i64 0] n=(List.replicate n (0:Int)).map iv:=by
 induction n with
 |zero=>rfl
 |succ n ih=>rw [iz,ih];rfl
theorem sr{n:Nat}(hn:n≤1000000)(h:ag):fy 1 8 [.int .i64 0] (.int .i64 (n:Int)) (.int .i64 (n:Int)) h=some (.slice h.next 0 n 1,h.alloc (.cells ((List.replicate n (0:Int)).map iv))):=by
 have:(8*(n:Int))≤140737488355328:=by omega
 simp [fy,vG,this,OR]
theorem KA{d:List Int}{h:ag}{b:Nat}(hb:h.get b=some (.cells (d.map iv))):Fz true h (.slice b 0 d.length 1) (aq encI 1 (some d)):=by
 refine .slice b 0 d.length 1 _ _ hb (by rw [pG]) fun i x y hx hy=>?_
 rw [pG,hy] at hx
 cases hx
 rw [← pG,List.getElem?_map] at hy
 obtain ⟨v,hv,rfl⟩:=Option.map_eq_some_iff.1 hy
 exact .scalar _ rfl
theorem KB(a b:Int):∃ v,aJ .add (.int .i64 a) (.int .i64 b)=some (.int .i64 v):=⟨_,L9 a b⟩
def qv(n:Nat):List Int→Nat→Nat
 |[],r=>r
 |x :: l,r=>qv n l (r*n+x.toNat)
def gY(n:Nat)(l:List Int):Nat:=qv n l 0
inductive Own {α:Type} (enc:α→List AV) (sz k:Nat) (h:ag):AV→List α→Prop
 |nil:Own enc sz k h .nils []
 |row (b:Nat) (l:List α):k≤b→b<h.next→h.get b=some (.cells (l.flatMap enc))→Own enc sz k h (.slice b 0 l.length sz) l
variable {α:Type} {enc:α→List AV} {sz k:Nat}
theorem Own.len{h h':ag}{a:AV}{l:List α}(o:Own enc sz k h a l):bQ .slice a h'=some (.int .i64 (l.length:Int)):=by
 cases o<;>rfl
theorem Own.ext{h h':ag}{a:AV}{l:List α}(o:Own enc sz k h a l)(hx:bR h h'):Own enc sz k h' a l:=by
 cases o with
 |nil=>exact .nil
 |row b l h1 h2 h3=>exact .row b l h1 (Nat.lt_of_lt_of_le h2 hx.next) (by rw [hx.get b h2];exact h3)
theorem Own.get{h:ag}{a:AV}{l:List α}(o:Own enc sz k h a l)(he:∀ x,(enc x).length=sz){i:Nat}{v:α}(hv:l[i]?=some v) :
  ∃ b,k≤b∧b<h.next∧(∀ q:IntKind,cS sz a (.int q (i:Int))=some (.ptr b (i*sz)))∧ai (some sz) (.ptr b (i*sz)) h=some (.agg (enc v))∧∀ m,m<sz→ai none (.ptr b (i*sz+m)) h=(enc v)[m]?:=by
 cases o with
 |nil=>simp at hv
 |row b l h1 h2 h3=>
  have hi:=(List.getElem?_eq_some_iff.1 hv).1
  refine ⟨b,h1,h2,fun q=>by simp [cS,asNat,hi],?_,fun m hm=>by rw [an h3,nZ,ny he l i m v hv hm]⟩
  rw [an h3]
  have hp:=mA he l i v hv
  simp only [hG]
  have hlen:i*sz+sz≤(l.flatMap enc).length:=by
   rw [gK he]
   have:(i+1)*sz≤l.length*sz:=Nat.mul_le_mul_right sz hi
   rw [Nat.succ_mul] at this;exact this
  rw [if_pos (by simpa using hlen),hp]
section
variable {α:Type} {enc:α→List AV} {sz k:Nat}
structure Row (enc:α→List AV) (sz:Nat) (h:ag) (x:AV) (l:List α):Prop where
 len:kI x=some l.length
 cells:iy sz l.length x h=some (l.flatMap enc)
theorem CH(he:∀ x,(enc x).length=sz):∀ (l:List α) (i:Nat),(l.flatMap enc).take (i*sz)=(l.take i).flatMap enc
 |[],i=>by simp
 |x :: l,0=>by simp
 |x :: l,i+1=>by
  rw [List.flatMap_cons,List.take_succ_cons,List.flatMap_cons,List.take_append,he,Nat.succ_mul,Nat.add_sub_cancel,CH he l i,List.take_of_length_le (by rw [he];omega)]
theorem CI(he:∀ x,(enc x).length=sz):∀ (l:List α) (i:Nat),(l.flatMap enc).drop (i*sz)=(l.drop i).flatMap enc
 |[],i=>by simp
 |x :: l,0=>by simp
 |x :: l,i+1=>by
  rw [List.flatMap_cons,List.drop_succ_cons,List.drop_append,he,Nat.succ_mul,Nat.add_sub_cancel,CI he l i,List.drop_of_length_le (by rw [he];omega),List.nil_append]
theorem Own.Nu{h:ag}{a:AV}{l:List α}(o:Own enc sz k h a l)(he:∀ x,(enc x).length=sz){i:Nat}(hi:i≤l.length) :
  ∃ x,(∀ q:IntKind,gr (some sz) a none (some (.int q (i:Int)))=some x)∧∀ h',bR h h'→Row enc sz h' x (l.take i):=by
 cases o with
 |nil=>simp at hi;subst hi;exact ⟨.nils,fun q=>by simp [gr,kI,mM,asNat],fun h' _=>⟨rfl,rfl⟩⟩
 |row b l h1 h2 h3=>
  refine ⟨.slice b 0 i sz,fun q=>by simp [gr,kI,mM,asNat,hi],fun h' hx=>⟨by simp [kI,Nat.min_eq_left hi],?_⟩⟩
  have h3':h'.get b=some (.cells (l.flatMap enc)):=by rw [hx.get b h2];exact h3
  have hl:(l.flatMap enc).length=l.length*sz:=gK he l
  have hm:(l.take i).length=i:=by rw [List.length_take,Nat.min_eq_left hi]
  simp only [iy,h3',if_true,Nat.zero_add,hl,hm,List.drop_zero]
  rw [if_pos (Nat.mul_le_mul_right sz hi),CH he]
theorem Own.Nv{h:ag}{a:AV}{l:List α}(o:Own enc sz k h a l)(he:∀ x,(enc x).length=sz){i:Nat}(hi:i≤l.length) :
  ∃ x,(∀ q:IntKind,gr (some sz) a (some (.int q (i:Int))) none=some x)∧∀ h',bR h h'→Row enc sz h' x (l.drop i):=by
 cases o with
 |nil=>simp at hi;subst hi;exact ⟨.nils,fun q=>by simp [gr,kI,mM,asNat],fun h' _=>⟨rfl,rfl⟩⟩
 |row b l h1 h2 h3=>
  refine ⟨.slice b (i*sz) (l.length-i) sz,fun q=>by simp [gr,kI,mM,asNat,hi],fun h' hx=>⟨by simp [kI],?_⟩⟩
  have h3':h'.get b=some (.cells (l.flatMap enc)):=by rw [hx.get b h2];exact h3
  have hl:(l.flatMap enc).length=l.length*sz:=gK he l
  have hm:(l.drop i).length=l.length-i:=by rw [List.length_drop]
  simp only [iy,h3',if_true,hl,hm]
  have hle:i*sz+(l.length-i)*sz≤l.length*sz:=by rw [← Nat.add_mul];exact Nat.mul_le_mul_right sz (by omega)
  rw [if_pos hle,CI he,List.take_of_length_le]
  rw [gK he,hm];exact Nat.le_refl _
theorem rj(h1:∀ x,br (enc x)=true):∀ l:List α,br (l.flatMap enc)=true
 |[]=>rfl
 |x :: l=>by
  have app:∀ a b:List AV,br a=true→br b=true→br (a++b)=true:=by
   intro a b ha hb
   induction a with
   |nil=>exact hb
   |cons y a ih=>
    simp only [br,List.cons_append,Bool.and_eq_true] at ha ⊢
    exact ⟨ha.1,ih ha.2⟩
  rw [List.flatMap_cons]
  exact app _ _ (h1 x) (rj h1 l)
def ep:AV→Option Nat
 |.slice b _ _ _=>some b
 |_=>none
theorem Own.append{h:ag}{a x:AV}{l m:List α}(o:Own enc sz k h a l)(he:∀ x,(enc x).length=sz)(h1:∀ x,br (enc x)=true)(r:Row enc sz h x m)(hk:k≤h.next){bytes:Nat}(hroom:(l.length+m.length)*bytes≤dm) :
  ∃ a' h',cz sz bytes a x h=some (a',h')∧Own enc sz k h' a' (l++m)∧(∀ c,c<h.next→ep a≠some c→h'.get c=h.get c)∧h.next≤h'.next∧(m≠[]→∀ c,ep a'=some c→h.next≤c):=by
 cases o with
 |nil=>
  rw [List.length_nil,Nat.zero_add] at hroom
  cases m with
  |nil=>
   refine ⟨.nils,h,?_,.nil,fun _ _ _=>rfl,Nat.le_refl _,fun h=>absurd rfl h⟩
   have hc:=r.cells
   have hl:=r.len
   simp only [List.length_nil] at hc hl
   simp [cz,hl,hc]
  |cons y m=>
   refine ⟨.slice h.next 0 (y :: m).length sz,h.alloc (.cells ((y :: m).flatMap enc)),?_,.row _ _ hk (Nat.lt_succ_self _) (aI _ _),fun c hc _=>by rw [ag.aV,if_neg (by omega)],Nat.le_succ _,fun _ c hc=>by cases hc;exact Nat.le_refl _⟩
   have h0:¬ (y :: m).length=0:=by simp
   simp only [cz,r.len,r.cells,if_neg h0]
   rw [if_pos (by rw [Bool.and_eq_true];exact ⟨decide_eq_true hroom,rj h1 _⟩)]
 |row b l hb1 hb2 hb3=>
  cases m with
  |nil=>
   rw [List.append_nil]
   refine ⟨.slice b 0 l.length sz,h,?_,.row b l hb1 hb2 hb3,fun _ _ _=>rfl,Nat.le_refl _,fun h=>absurd rfl h⟩
   have hc:=r.cells
   have hl:=r.len
   simp only [List.length_nil] at hc hl
   simp [cz,hl,hc]
  |cons y m=>
   have h0:¬ (y :: m).length=0:=by simp
   have hl:(l.flatMap enc).length=l.length*sz:=gK he l
   refine ⟨.slice h.next 0 (l++y :: m).length sz,(h.set b .dead).alloc (.cells ((l++y :: m).flatMap enc)),?_,.row _ _ hk ?_ ?_,fun c hc hne=>?_,?_,fun _ c hc=>by cases hc;exact Nat.le_refl _⟩
   ·simp only [cz,r.len,r.cells,if_neg h0,if_true,hb3,List.drop_zero,Nat.zero_add]
    rw [if_pos (by rw [Bool.and_eq_true,Bool.and_eq_true];exact ⟨⟨decide_eq_true hroom,rj h1 _⟩,decide_eq_true (by omega)⟩),← hl,List.take_length,List.flatMap_append,List.length_append]
   ·rw [ag.next_alloc,ag.next_set];omega
   ·have:=aI (h.set b .dead) (.cells ((l++y :: m).flatMap enc))
    rwa [ag.next_set] at this
   ·rw [ag.aV,ag.next_set,if_neg (by omega),ag.aO,if_neg (fun e=>hne (by rw [e];rfl))]
   ·rw [ag.next_alloc,ag.next_set];omega
end
theorem mW(s:bC):br (encS s)=true:=rfl
def strLt(a b:bC):Bool:=Op.bytesLess a b
def eD:List bC→bC→List bC
 |[],s=>[s]
 |x :: l,s=>if strLt x s=true then x :: eD l s else if x=s then x :: l else s :: x :: l
theorem Nw(a b:bC):aJ .lss (.str a) (.str b)=some (.bool (strLt a b)):=by simp [aJ,strLt]
theorem nC(a b:bC):(a==b)=decide (a=b):=by
 by_cases h:a=b
 ·subst h;simp
 ·rw [decide_eq_false h];simp [h]
theorem Fq{l:List bC}{i:Nat}{x s:bC}(hx:l[i]?=some x):l.take i++eD (l.drop i) s=if strLt x s=true then l.take (i+1)++eD (l.drop (i+1)) s else if x=s then l else l.take i++(s :: l.drop i):=by
 have h1:=(List.getElem?_eq_some_iff.1 hx).1
 have hd:l.drop i=x :: l.drop (i+1):=by
  rw [List.drop_eq_getElem_cons h1]
  rw [List.getElem?_eq_getElem h1] at hx
  cases hx;rfl
 rw [hd,eD]
 split
 ·rw [List.take_add_one,hx];simp
 ·split
  ·rw [← hd,List.take_append_drop]
  ·rfl
theorem Own.ge{α:Type}{enc:α→List AV}{sz k:Nat}{h:ag}{a:AV}{l:List α}(o:Own enc sz k h a l){c:Nat}(hc:ep a=some c):k≤c:=by
 cases o with
 |nil=>cases hc
 |row b l h1 _ _=>cases hc;exact h1
theorem Own.weak{α:Type}{enc:α→List AV}{sz k j:Nat}{h:ag}{a:AV}{l:List α}(o:Own enc sz k h a l)(hj:j≤k):Own enc sz j h a l:=by
 cases o with
 |nil=>exact .nil
 |row b l h1 h2 h3=>exact .row b l (Nat.le_trans hj h1) h2 h3
theorem ej{k:Nat}{h:ag}{a:AV}{l:List bC}{s:bC}(o:Own encS 1 k h a l)(hk:k≤h.next)(hl:l.length≤100000){K:Out→ag→Bool}
  (hK:∀ a' h',bR h h'→Own encS 1 k h' a' (eD l s)→K (.ret a') h'=true):Sem Tryz.prog 86 [a,.str s] h K:=by
 have hbig:l.length≤cm:=by unfold cm;omega
 refine F.vZ ?_
 rw [F.yq]
 have app:∀ i,i≤l.length→eD l s=l.take i++(s :: l.drop i)→∀ e:Env,e 0=a→e 1 = .str s→e 5 = .int .i64 (i:Int) →
   (af (fR [] [] []) fun c11=>
    af (gr (some 1) (e 0) none (some (e 5))) fun x12=>
    af (fR [(.str [])] [(0,1)] [(e 1)]) fun c13=>
    af (gr (some 1) (e 0) (some (e 5)) none) fun x14=>
    dg (cz 1 16 (.slice (ag.next h) 0 0 1) x12 (ag.alloc (ag.alloc h (.cells c11)) (.cells c13))) fun x15 h16=>
    dg (cz 1 16 x15 (.slice (ag.next (ag.alloc h (.cells c11))) 0 1 1) h16) fun x17 h18=>
    dg (cz 1 16 x17 x14 h18) fun x19 h20=>
    K (.ret x19) h20)=true:=by
  intro i hi he e e0 e1 e5
  obtain ⟨x12,hx12,r12⟩:=o.Nu gL hi
  obtain ⟨x14,hx14,r14⟩:=o.Nv gL hi
  rw [show fR [] [] []=some [] from rfl]
  simp only [bindO_some,e0,e1,e5,hx12,hx14]
  rw [show fR [(.str [])] [(0,1)] [.str s]=some [.str s] from rfl]
  simp only [bindO_some]
  have hx1:bR h (ag.alloc (ag.alloc h (.cells [])) (.cells [.str s])):=(bR.alloc _ _).trans (bR.alloc _ _)
  have g0:(ag.alloc (ag.alloc h (.cells [])) (.cells [.str s])).get h.next=some (.cells []):=by
   rw [ag.aV,ag.next_alloc,if_neg (by omega)];exact aI _ _
  have g1:(ag.alloc (ag.alloc h (.cells [])) (.cells [.str s])).get (h.next+1)=some (.cells [.str s]):=aI _ _
  have gn:(ag.alloc (ag.alloc h (.cells [])) (.cells [.str s])).next=h.next+2:=rfl
  rw [ag.next_alloc]
  generalize (ag.alloc (ag.alloc h (.cells [])) (.cells [.str s]))=H at hx1 g0 g1 gn ⊢
  have o0:Own encS 1 h.next H (.slice h.next 0 0 1) ([]:List bC):=.row h.next [] (Nat.le_refl _) (by omega) g0
  have hm:dm=140737488355328:=rfl
  have lt:(l.take i).length=i:=by rw [List.length_take,Nat.min_eq_left hi]
  have ld:(l.drop i).length=l.length-i:=List.length_drop
  obtain ⟨a1,h1,p1,o1,f1,n1,_⟩:=o0.append gL mW (r12 H hx1) (by omega) (bytes:=16) (by rw [hm,lt,List.length_nil];omega)
  simp only [p1,bindO2_some]
  have q1:h1.get (h.next+1)=some (.cells [.str s]):=by rw [f1 _ (by omega) (by simp [ep])];exact g1
  have rs:Row encS 1 h1 (.slice (h.next+1) 0 1 1) [s]:=⟨rfl,by simp [iy,q1,encS]⟩
  have e1x:bR h h1:=⟨by have:=hx1.next;omega,fun c hc=>by rw [f1 c (by omega) (by simp [ep];omega)];exact hx1.get c hc⟩
  obtain ⟨a2,h2,p2,o2,f2,n2,_⟩:=o1.append gL mW rs (by omega) (bytes:=16) (by rw [hm,List.nil_append,lt];simp;omega)
  simp only [p2,bindO2_some]
  have e2x:bR h h2:=⟨by have:=e1x.next;omega,fun c hc=>by rw [f2 c (by have:=e1x.next;omega) (fun hb=>by have:=o1.ge hb;omega)];exact e1x.get c hc⟩
  obtain ⟨a3,h3,p3,o3,f3,n3,_⟩:=o2.append gL mW (r14 h2 e2x) (by have:=e2x.next;omega) (bytes:=16) (by rw [hm,ld,List.nil_append,List.length_append,lt];simp;omega)
  simp only [p3,bindO2_some]
  have e3x:bR h h3:=⟨by have:=e2x.next;omega,fun c hc=>by rw [f3 c (by have:=e2x.next;omega) (fun hb=>by have:=o2.ge hb;omega)];exact e2x.get c hc⟩
  refine hK a3 h3 e3x ?_
  rw [he]
  have:=o3.weak hk
  rw [List.nil_append,List.append_assoc] at this
  exact this
 have get:∀ (i:Nat) (x:bC),l[i]?=some x→∃ b,(∀ q:IntKind,cS 1 a (.int q (i:Int))=some (.ptr b (i*1)))∧ai none (.ptr b (i*1)) h=some (.str x):=fun i x hx=>by
  obtain ⟨b,_,_,h3,_,h5⟩:=o.get gL hx
  exact ⟨b,h3,by have:=h5 0 (by omega);rw [Nat.add_zero] at this;rw [this];rfl⟩
 refine aE 0 l.length (Nat.zero_le _) (fun i e h'=>h'=h∧e 0=a∧e 1 = .str s∧e 5 = .int .i64 (i:Int)∧eD l s=l.take i++eD (l.drop i) s) ⟨rfl,rfl,rfl,rfl,rfl⟩ ?_ ?_
 ·rintro i e h' _ hi ⟨rfl,e0,e1,e5,ht⟩ K' hn hx hr hp
  have hv:l[i]?=some l[i]:=List.getElem?_eq_getElem hi
  generalize l[i]=x at hv
  obtain ⟨b,g1,g2⟩:=get i x hv
  rw [Fq hv] at ht
  rw [F.ej.aN]
  simp only [e0,e1,e5,o.len,aQ,Nat.reduceAdd,Nat.reduceEqDiff,reduceIte,bf hi,g1,g2,Nw]
  cases hlt:strLt x s with
  |true=>
   rw [if_pos hlt] at ht
   simp only [aC,aK hi hbig,bindO_some]
   exact hn _ _ ⟨rfl,e0,e1,rfl,ht⟩
  |false=>
   rw [if_neg (by rw [hlt];decide)] at ht
   simp only [aD]
   rw [hx,F.ej.aG]
   simp only [aQ,Nat.reduceAdd,Nat.reduceEqDiff,reduceIte,e0,e1,e5,o.len,bf hi,g1,g2,aC,nC]
   by_cases hxs:x=s
   ·rw [if_pos hxs] at ht
    simp only [decide_eq_true hxs,aC]
    exact hK _ _ (bR.refl _) (by rw [ht];exact o)
   ·rw [if_neg hxs] at ht
    simp only [decide_eq_false hxs,aD]
    have:=app i (Nat.le_of_lt hi) ht e e0 e1 e5
    simp only [e0,e1,e5] at this
    exact this
 ·rintro e h' ⟨rfl,e0,e1,e5,ht⟩ K' hx
  rw [F.ej.aN]
  simp only [e0,e5,o.len,aQ,Nat.reduceAdd,Nat.reduceEqDiff,reduceIte,aT]
  rw [hx,F.ej.aG]
  simp only [aQ,Nat.reduceAdd,Nat.reduceEqDiff,reduceIte,e0,e1,e5,o.len,aT,aD]
  have:=app l.length (Nat.le_refl _) (by rw [ht,List.drop_of_length_le (Nat.le_refl _)];rfl) e e0 e1 e5
  simp only [e0,e1,e5] at this
  exact this
structure je (es:List Entry) (ck:Nat):Prop where
 nodup:(es.map (·.2.2)).Nodup
 lt:∀ e ∈ es,e.2.2<ck
theorem je.nil(ck:Nat):je [] ck:=⟨List.nodup_nil,fun _ h=>by cases h⟩
theorem je.push{es:List Entry}{ck:Nat}(b:je es ck)(k v:AV):je (es++[(k,v,ck)]) (ck+1):=by
 refine ⟨?_,fun e he=>?_⟩
 ·rw [List.map_append,List.nodup_append]
  refine ⟨b.nodup,by simp,fun a ha c hc=>?_⟩
  rw [List.mem_map] at ha
  obtain ⟨e,he,rfl⟩:=ha
  have:=b.lt e he
  simp at hc
  omega
 ·rw [List.mem_append] at he
  rcases he with he|he
  ·have:=b.lt e he;omega
  ·simp at he;rw [he];exact Nat.lt_succ_self _
theorem Fs(es:List Entry)(i:Nat)(v:AV):(eO es i v).map (·.2.2)=es.map (·.2.2):=by
 unfold eO
 cases h:es[i]? with
 |none=>rfl
 |some e=>
  simp only [List.map_set]
  apply List.ext_getElem?
  intro j
  by_cases hj:i=j
  ·subst hj
   have hi:=(List.getElem?_eq_some_iff.1 h).1
   rw [List.getElem?_set_self (by simpa using hi),List.getElem?_map,h];rfl
  ·rw [List.getElem?_set_ne hj]
theorem je.set{es:List Entry}{ck:Nat}(b:je es ck)(i:Nat)(v:AV):je (eO es i v) ck:=by
 refine ⟨by rw [Fs];exact b.nodup,fun e he=>?_⟩
 have:e.2.2 ∈ (eO es i v).map (·.2.2):=List.mem_map_of_mem he
 rw [Fs,List.mem_map] at this
 obtain ⟨e',he',h⟩:=this
 rw [← h];exact b.lt e' he'
theorem tB{d:TypeDesc}{b:Nat}{h h':ag}{es es':List Entry}{ck ck':Nat}{k v:AV}(hb:h.get b=some (.map es ck))(hB:je es ck)(hu:eF d (.map b) k v h=some h')(hg:h'.get b=some (.map es' ck')):je es' ck':=by
 simp only [eF,hb] at hu
 split at hu
 ·cases hu
  rw [ag.aO,if_pos rfl] at hg
  cases hg
  exact hB.set _ _
 ·cases hu
  rw [ag.aO,if_pos rfl] at hg
  cases hg
  exact hB.push k v
 ·cases hu
abbrev lq:=List (bC×AV)
def lq.find(m:lq)(k:bC):Option AV:=(List.find? (fun p=>k==p.1) m).map (·.2)
def lq.oZ:lq→bC→AV→lq
 |[],k,v=>[(k,v)]
 |p :: m,k,v=>if k==p.1 then (p.1,v) :: m else p :: lq.oZ m k v
def rq:List Entry→lq→Prop
 |[],[]=>True
 |e :: es,p :: m=>e.1 = .str p.1∧e.2.1=p.2∧rq es m
 |_,_=>False
theorem rq.iQ{k:bC}:∀ {es:List Entry} {m:lq} (i:Nat),rq es m→∃ r,iQ .string (.str k) es i=some r∧match r with
  |none=>m.find k=none
  |some (j,v)=>∃ n,j=i+n∧m.find k=some v∧∀ w,rq (eO es n w) (m.oZ k w)
 |[],[],i,_=>⟨none,rfl,rfl⟩
 |e :: es,p :: m,i,⟨h1,h2,h3⟩=>by
  obtain ⟨ek,ev,en⟩:=e
  simp only at h1 h2
  subst h1;subst h2
  by_cases hk:k=p.1
  ·subst hk
   refine ⟨some (i,p.2),by simp [Go.AM.iQ,tc],0,rfl,by simp [lq.find],fun w=>?_⟩
   simp [eO,rq,lq.oZ,h3]
  ·obtain ⟨r,hr,hm⟩:=rq.iQ (k:=k) (i+1) h3
   have hkb:(k==p.1)=false:=by simpa using hk
   refine ⟨r,by simp only [Go.AM.iQ,tc,hkb,hr],?_⟩
   cases r with
   |none=>simpa [lq.find,hk] using hm
   |some jv=>
    obtain ⟨n,a,b,e⟩:=hm
    refine ⟨n+1,by omega,by simpa [lq.find,hk] using b,fun w=>?_⟩
    have:=e w
    simp only [eO,List.getElem?_cons_succ,lq.oZ,hkb] at this ⊢
    split at this<;>simp_all [rq]
theorem rq.append{es:List Entry}{m:lq}(h:rq es m){k:bC}(hk:m.find k=none)(v:AV)(n:Nat):rq (es++[(.str k,v,n)]) (m.oZ k v):=by
 induction es generalizing m with
 |nil=>cases m with
  |nil=>simp [rq,lq.oZ]
  |cons p m=>exact h.elim
 |cons e es ih=>cases m with
  |nil=>exact h.elim
  |cons p m=>
   obtain ⟨h1,h2,h3⟩:=h
   have hne:k≠p.1:=fun e=>by subst e;simp [lq.find] at hk
   have hk':lq.find m k=none:=by simpa [lq.find,hne] using hk
   have:=ih h3 hk'
   simp only [List.cons_append,lq.oZ]
   rw [if_neg (by simpa using hne)]
   exact ⟨h1,h2,this⟩
theorem vm{k:Nat}{h:ag}{a:AV}{l:List bC}(o:Own encS 1 k h a l){i:Nat}{x:bC}(hx:l[i]?=some x) :
  ∃ b,b<h.next∧(∀ q:IntKind,cS 1 a (.int q (i:Int))=some (.ptr b (i*1)))∧ai none (.ptr b (i*1)) h=some (.str x):=by
 obtain ⟨b,_,h2,h3,_,h5⟩:=o.get gL hx
 exact ⟨b,h2,h3,by have:=h5 0 (by omega);rw [Nat.add_zero] at this;rw [this];rfl⟩
theorem ru{α:Type}{p:α→Bool}{l:List α}{i:Nat}{a:α}(ha:l[i]?=some a)(ht:(l.take i).any p=false)(hp:p a=false):(l.take (i+1)).any p=false:=by
 rw [List.take_add_one,ha];simp [ht,hp]
theorem dr{k:Nat}{h:ag}{a:AV}{l:List bC}{s:bC}(o:Own encS 1 k h a l)(hl:l.length≤cm){K:Out→ag→Bool}(hK:K (.ret (.bool (l.any fun x=>x==s))) h=true):Sem Tryz.prog 73 [a,.str s] h K:=by
 refine F.p7 ?_
 rw [F.qR]
 refine aE 0 l.length (Nat.zero_le _) (fun i e h'=>h'=h∧e 0=a∧e 1 = .str s∧e 5 = .int .i64 (i:Int)∧((l.take i).any fun x=>x==s)=false) ⟨rfl,rfl,rfl,rfl,rfl⟩ ?_ ?_
 ·rintro i e h' _ hi ⟨rfl,e0,e1,e5,ht⟩ K' hn hx hr hp
  have hv:l[i]?=some l[i]:=List.getElem?_eq_getElem hi
  generalize l[i]=x at hv
  obtain ⟨b,_,g1,g2⟩:=vm o hv
  rw [F.dr.aN]
  simp only [e0,e1,e5,o.len,aQ,Nat.reduceAdd,Nat.reduceEqDiff,reduceIte,bf hi,g1,g2]
  cases hq:x==s with
  |true=>
   simp only [aC]
   rw [hr,F.dr.aZ]
   simp only [bt,Nat.reduceEqDiff,reduceIte]
   rw [List.any_eq_true.2 ⟨x,List.mem_of_getElem? hv,hq⟩] at hK
   exact hK
  |false=>
   simp only [aD,aK hi hl,bindO_some]
   exact hn _ _ ⟨rfl,e0,e1,rfl,ru hv ht hq⟩
 ·rintro e h' ⟨rfl,e0,e1,e5,ht⟩ K' hx
  rw [F.dr.aN]
  simp only [e0,e5,o.len,aQ,Nat.reduceAdd,Nat.reduceEqDiff,reduceIte,aT]
  rw [hx,F.dr.aG]
  rw [List.take_of_length_le (Nat.le_refl _)] at ht
  rw [ht] at hK;exact hK
theorem Own.push{α:Type}{enc:α→List AV}{sz k:Nat}{h:ag}{a:AV}{l:List α}(o:Own enc sz k h a l)(he:∀ x,(enc x).length=sz)(h1:∀ x,br (enc x)=true)(hk:k≤h.next){bytes:Nat}(hroom:(l.length+1)*bytes≤dm)(v:α) :
  ∃ a' h',cz sz bytes a (.slice h.next 0 1 sz) (h.alloc (.cells (enc v)))=some (a',h')∧Own enc sz k h' a' (l++[v])∧(∀ c,c<h.next→ep a≠some c→h'.get c=h.get c)∧h.next≤h'.next∧(∀ h0,bR h0 h→h0.next≤k→bR h0 h')∧∀ c,ep a'=some c→h.next≤c:=by
 have g:=aI h (.cells (enc v))
 have hn:(h.alloc (.cells (enc v))).next=h.next+1:=ag.next_alloc h _
 have hx:bR h (h.alloc (.cells (enc v))):=bR.alloc _ _
 have r:Row enc sz (h.alloc (.cells (enc v))) (.slice h.next 0 1 sz) [v]:=by
  refine ⟨rfl,?_⟩
  have hl:(enc v).length=sz:=he v
  simp only [iy,g,if_true,List.length_singleton,Nat.one_mul,Nat.zero_add,hl,Nat.le_refl,List.drop_zero]
  rw [← hl,List.take_length];simp
 obtain ⟨a',h',p,o',f,n,hf⟩:=(o.ext hx).append he h1 r (by omega) (bytes:=bytes) (by simpa using hroom)
 have f':∀ c,c<h.next→ep a≠some c→h'.get c=h.get c:=fun c hc hb=>by rw [f c (by omega) hb];exact hx.get c hc
 refine ⟨a',h',p,o',f',by omega,fun h0 e0 hk0=>⟨by have:=e0.next;omega,fun c hc=>?_⟩,fun c hc=>by have:=hf (by simp) c hc;omega⟩
 rw [f' c (by have:=e0.next;omega) (fun hb=>by have:=o.ge hb;omega)]
 exact e0.get c hc
def me(y:bC×Int):List AV:=[.str y.1,.int .i64 y.2]
theorem mX(y:bC×Int):(me y).length=2:=rfl
theorem KC(s:bC)(n:Int):kJ [.str [],.int .i64 0] [(0,1),(1,1)] [.str s,.int .i64 n]=some (.agg (me (s,n))):=rfl
theorem KD(y:bC×Int):fR [.str [],.int .i64 0] [(0,2)] [.agg (me y)]=some (me y):=rfl
theorem Own.Ft{α:Type}{enc:α→List AV}{sz k:Nat}{h:ag}{a:AV}{l:List α}(o:Own enc sz k h a l)(hf:∀ v,∀ x ∈ enc v,Fz true h x x):∃ x:Sl α,x.l=l∧Fz true h a (aq enc sz x):=by
 cases o with
 |nil=>exact ⟨none,rfl,.dD rfl⟩
 |row b l h1 h2 h3=>
  refine ⟨some l,rfl,.slice b 0 l.length sz _ _ h3 rfl fun i x y hx hy=>?_⟩
  rw [hx] at hy
  cases hy
  have:=List.mem_of_getElem? hx
  rw [List.mem_flatMap] at this
  obtain ⟨v,hv,hxv⟩:=this
  exact hf v x hxv
theorem Own.pH{α:Type}{enc:α→List AV}{sz k:Nat}{h:ag}{a:AV}{l:List α}(o:Own enc sz k h a l){d:Nat}(hd:d<k)(x:jG):Own enc sz k (h.set d x) a l:=by
 cases o with
 |nil=>exact .nil
 |row b _ w1 w2 w3=>exact .row b l w1 (by rw [ag.next_set];exact w2) (by rw [ag.aO,if_neg (by omega)];exact w3)
theorem su(m:dF)(k j:bC)(v:Int):(m.oZ k v).find j=if j=k then some v else m.find j:=by
 induction m with
 |nil=>
  simp only [dF.oZ,dF.find,List.find?_cons,List.find?_nil]
  by_cases h:j=k
  ·subst h;simp
  ·have:(j==k)=false:=by simpa using h
   rw [this,if_neg h]
 |cons p m ih=>
  simp only [dF.oZ]
  by_cases hk:k=p.1
  ·rw [if_pos (by simpa using hk)]
   subst hk
   simp only [dF.find,List.find?_cons]
   by_cases h:j=p.1
   ·subst h;simp
   ·have:(j==p.1)=false:=by simpa using h
    rw [this,if_neg h]
  ·rw [if_neg (by simpa using hk)]
   simp only [dF.find,List.find?_cons] at ih ⊢
   by_cases h:j=p.1
   ·subst h
    simp only [beq_self_eq_true,Option.map_some]
    rw [if_neg (Ne.symm hk)]
   ·have:(j==p.1)=false:=by simpa using h
    rw [this]
    exact ih
theorem Fu(m:dF)(k:bC)(v:Int):(m.oZ k v).map (·.1)=if k ∈ m.map (·.1) then m.map (·.1) else m.map (·.1)++[k]:=by
 induction m with
 |nil=>simp [dF.oZ]
 |cons p m ih=>
  simp only [dF.oZ]
  by_cases hk:k=p.1
  ·rw [if_pos (by simpa using hk)]
   subst hk;simp
  ·rw [if_neg (by simpa using hk),List.map_cons,ih]
   by_cases hm:k ∈ m.map (·.1)
   ·rw [if_pos hm,if_pos (by rw [List.map_cons];exact List.mem_cons_of_mem _ hm)];rfl
   ·rw [if_neg hm,if_neg (by rw [List.map_cons,List.mem_cons];exact fun h=>h.elim hk hm)];rfl
theorem CJ{m:dF}(hm:(m.map (·.1)).Nodup)(k:bC)(v:Int):((m.oZ k v).map (·.1)).Nodup:=by
 rw [Fu]
 split
 ·exact hm
 ·rename_i h
  rw [List.nodup_append]
  exact ⟨hm,by simp,fun a ha b hb=>by simp at hb;subst hb;exact fun e=>h (e▸ha)⟩
theorem ou{m:dF}{k:bC}{v:Int}(h:m.find k=some v):(k,v) ∈ m:=by
 unfold dF.find at h
 obtain ⟨p,hp,rfl⟩:=Option.map_eq_some_iff.1 h
 have h1:=List.mem_of_find?_eq_some hp
 have h2:=List.find?_some hp
 simp only [beq_iff_eq] at h2
 subst h2;exact h1
theorem sw{m:dF}(hm:(m.map (·.1)).Nodup){p:bC×Int}(hp:p ∈ m):m.find p.1=some p.2:=by
 induction m with
 |nil=>cases hp
 |cons q m ih=>
  rw [List.map_cons,List.nodup_cons] at hm
  simp only [dF.find,List.find?_cons]
  rcases List.mem_cons.1 hp with rfl|hp
  ·simp
  ·have:(p.1==q.1)=false:=by
    simp only [beq_eq_false_iff_ne]
    exact fun e=>hm.1 (e▸List.mem_map_of_mem hp)
   rw [this]
   exact ih hm.2 hp
theorem jC.mem:∀ {es:List Entry} {m:dF},jC es m→∀ e ∈ es,∃ p ∈ m,e.1 = .str p.1∧e.2.1 = .int .i64 p.2
 |[],_,_,e,he=>by cases he
 |e0 :: es,[],h,_,_=>h.elim
 |e0 :: es,p :: m,⟨h1,h2,h3⟩,e,he=>by
  rcases List.mem_cons.1 he with rfl|he
  ·exact ⟨p,List.mem_cons_self,h1,h2⟩
  ·obtain ⟨q,hq,r⟩:=jC.mem h3 e he
   exact ⟨q,List.mem_cons_of_mem _ hq,r⟩
theorem lu{h:ag}{z v:AV}(h1:v.dP = [v])(hv:br [v]=true):∃ h',bL 1 (.ptr h.next 0) v (h.alloc (.cells [z]))=some h'∧h'.get h.next=some (.cells [v])∧(∀ b,b≠h.next→h'.get b=h.get b)∧h'.next=h.next+1:=by
 refine ⟨_,by rw [dV (n:=1) (aI _ _) (by rw [h1];rfl) (by rw [h1];exact hv) (by simp),h1],?_,fun b hb=>?_,by rw [ag.next_set,ag.next_alloc]⟩
 ·rw [ag.aO,if_pos rfl];rfl
 ·rw [ag.aO,if_neg hb,ag.aV,if_neg hb]
theorem pI{x s:bC}:∀ {l:List bC},x ∈ eD l s↔x ∈ l∨x=s
 |[]=>by simp [eD]
 |a :: l=>by
  rw [eD]
  split
  ·rw [List.mem_cons,pI (l:=l),List.mem_cons,or_assoc]
  ·split
   ·rename_i h;subst h
    rw [List.mem_cons]
    exact ⟨fun h=>.inl h,fun h=>h.elim id .inl⟩
   ·rw [List.mem_cons];exact Or.comm
theorem Fz.G5{old:Bool}{h:ag}{v r:AV}(hr:r.scalar=true)(hf:Fz old h v r):v=r:=by
 cases hf<;>first|rfl|(simp [AV.scalar] at hr)
theorem Sem.KE{P:Program}{f:FuncId}{args args':List AV}{r:AV}{h:ag}{K:Out→ag→Bool}(hr:r.scalar=true)(hs:Sem P f args' ag.empty (mS r))(hp:jB true h args args')(hK:K (.ret r) h=true):Sem P f args h K:=
 hs.L7 hp fun o h' ho=>by
  obtain ⟨v,rfl,hf⟩:=cw.1 ho
  obtain rfl:=hf.G5 hr
  exact ⟨_,_,rfl,.scalar _ hr,hK⟩
theorem nD{old:Bool}{d:List Int}{h:ag}{b:Nat}(hb:h.get b=some (.cells (d.map iv))):Fz old h (.slice b 0 d.length 1) (aq encI 1 (some d)):=by
 refine .slice b 0 d.length 1 _ _ hb (by rw [pG]) fun i x y hx hy=>?_
 rw [pG,hy] at hx
 cases hx
 rw [← pG,List.getElem?_map] at hy
 obtain ⟨v,hv,rfl⟩:=Option.map_eq_some_iff.1 hy
 exact .scalar _ rfl
theorem Own.lt{α:Type}{enc:α→List AV}{sz k:Nat}{h:ag}{a:AV}{l:List α}(o:Own enc sz k h a l){c:Nat}(hc:ep a=some c):c<h.next:=by
 cases o with
 |nil=>cases hc
 |row b l h1 h2 h3=>cases hc;exact h2
theorem DZ{α:Type}[BEq α][LawfulBEq α]{l m:List α}{i:Nat}{a b:α}(ha:l[i]?=some a)(hb:m[i]?=some b):(l.drop i==m.drop i)=((a==b)&&(l.drop (i+1)==m.drop (i+1))):=by
 have h1:=(List.getElem?_eq_some_iff.1 ha).1
 have h2:=(List.getElem?_eq_some_iff.1 hb).1
 rw [List.drop_eq_getElem_cons h1,List.drop_eq_getElem_cons h2]
 rw [List.getElem?_eq_getElem h1] at ha
 rw [List.getElem?_eq_getElem h2] at hb
 cases ha;cases hb;rfl
theorem dX{x y:Sl Int}(hx:x.l.length≤cm){h:ag}{K:Out→ag→Bool}(hK:K (.ret (.bool (x.l==y.l))) h=true):Sem Tryz.prog 35 [aq encI 1 x,aq encI 1 y] h K:=by
 refine F.yp ?_
 rw [F.Ao]
 simp only [aQ,Nat.reduceAdd,Nat.reduceEqDiff,reduceIte,ct]
 by_cases hl:x.l.length=y.l.length
 ·simp only [decide_eq_true (by omega:(x.l.length:Int)=(y.l.length:Int)),Bool.not_true,aD]
  refine aE 0 x.l.length (Nat.zero_le _) (fun i e h'=>h'=h∧e 0=aq encI 1 x∧e 1=aq encI 1 y∧e 5 = .int .i64 (i:Int)∧(x.l==y.l)=(x.l.drop i==y.l.drop i)) ⟨rfl,rfl,rfl,rfl,rfl⟩ ?_ ?_
  ·rintro i e h' _ hi ⟨rfl,e0,e1,e5,ht⟩ K' hn hx' hr hp
   have hi2:i<y.l.length:=by omega
   have hv:x.l[i]?=some x.l[i]:=List.getElem?_eq_getElem hi
   have hw:y.l[i]?=some y.l[i]:=List.getElem?_eq_getElem hi2
   rw [DZ hv hw] at ht
   generalize x.l[i]=a at hv ht
   generalize y.l[i]=b at hw ht
   rw [F.dX.aN]
   simp only [e0,e1,e5,aQ,Nat.reduceAdd,Nat.reduceEqDiff,reduceIte,bf hi,aS x hi,aS y hi2,eT hv,eT hw]
   cases hq:a==b with
   |false=>
    simp only [Bool.not_false,aC]
    rw [hr,F.dX.aZ]
    simp only [bt,Nat.reduceEqDiff,reduceIte]
    rw [ht,hq] at hK;exact hK
   |true=>
    simp only [Bool.not_true,aD,aK hi hx,bindO_some]
    exact hn _ _ ⟨rfl,e0,e1,rfl,by rw [ht,hq,Bool.true_and]⟩
  ·rintro e h' ⟨rfl,e0,e1,e5,ht⟩ K' hx'
   rw [F.dX.aN]
   simp only [e0,e5,aQ,Nat.reduceAdd,Nat.reduceEqDiff,reduceIte,aT]
   rw [hx',F.dX.aG]
   rw [List.drop_of_length_le (Nat.le_refl _),List.drop_of_length_le (by omega)] at ht
   rw [ht] at hK;exact hK
 ·simp only [decide_eq_false (by omega:¬ (x.l.length:Int)=(y.l.length:Int)),Bool.not_false,aC]
  have:(x.l==y.l)=false:=by
   simp only [beq_eq_false_iff_ne];exact fun e=>hl (congrArg List.length e)
  rw [this] at hK;exact hK
theorem wG:∀ a:bC,strLt a a=false
 |[]=>rfl
 |x :: a=>by
  have:=wG a
  unfold strLt at this ⊢
  simp [Op.bytesLess,this]
theorem xL:∀ {a b c:bC},strLt a b=true→strLt b c=true→strLt a c=true
 |_,[],_,h,_=>by unfold strLt at h;simp [Op.bytesLess] at h
 |_,_ :: _,[],_,h=>by unfold strLt at h;simp [Op.bytesLess] at h
 |[],_ :: _,_ :: _,_,_=>rfl
 |x :: a,y :: b,z :: c,h1,h2=>by
  have ih:=@xL a b c
  unfold strLt at h1 h2 ih ⊢
  simp only [Op.bytesLess,Bool.or_eq_true,decide_eq_true_eq,Bool.and_eq_true,beq_iff_eq] at h1 h2 ⊢
  rcases h1 with h1|⟨rfl,h1⟩<;>rcases h2 with h2|⟨rfl,h2⟩
  ·exact .inl (UInt8.lt_trans h1 h2)
  ·exact .inl h1
  ·exact .inl h2
  ·exact .inr ⟨rfl,ih h1 h2⟩
theorem CK:∀ {a b:bC},strLt a b=false→a≠b→strLt b a=true
 |[],[],_,h=>absurd rfl h
 |[],_ :: _,h,_=>by unfold strLt at h;simp [Op.bytesLess] at h
 |_ :: _,[],_,_=>rfl
 |x :: a,y :: b,h1,h2=>by
  have ih:=@CK a b
  unfold strLt at h1 ih ⊢
  simp only [Op.bytesLess,Bool.or_eq_false_iff,decide_eq_false_iff_not,Bool.and_eq_false_iff,beq_eq_false_iff_ne] at h1
  simp only [Op.bytesLess,Bool.or_eq_true,decide_eq_true_eq,Bool.and_eq_true,beq_iff_eq]
  obtain ⟨h3,h4⟩:=h1
  by_cases e:x=y
  ·subst e
   rcases h4 with h4|h4
   ·exact absurd rfl h4
   ·exact .inr ⟨rfl,ih h4 (fun h=>h2 (by rw [h]))⟩
  ·refine .inl ?_
   rcases UInt8.lt_or_lt_of_ne e with h|h
   ·exact absurd h h3
   ·exact h
def xM(l:List bC):Prop:=l.Pairwise fun a b=>strLt a b=true
theorem tC:∀ {l:List bC},xM l→∀ s,xM (eD l s)
 |[],_,s=>List.pairwise_singleton _ _
 |x :: l,h,s=>by
  obtain ⟨h1,h2⟩:=List.pairwise_cons.1 h
  rw [eD]
  split
  ·rename_i hx
   refine List.pairwise_cons.2 ⟨fun y hy=>?_,tC h2 s⟩
   rcases pI.1 hy with hy|rfl
   ·exact h1 y hy
   ·exact hx
  ·rename_i hx
   split
   ·exact h
   ·rename_i hne
    have hsx:strLt s x=true:=CK (by simpa using hx) hne
    refine List.pairwise_cons.2 ⟨fun y hy=>?_,h⟩
    rcases List.mem_cons.1 hy with rfl|hy
    ·exact hsx
    ·exact xL hsx (h1 y hy)
theorem xN{b:Nat}{h:ag}{es:List Entry}{ck:Nat}{m:dF}(hb:h.get b=some (.map es ck))(hm:jC es m)(k:bC) :
  ei .string (.int .i64 0) false (.map b) (.str k) h=some (.int .i64 ((m.find k).getD 0)):=by
 obtain ⟨r,hr,hm'⟩:=jC.iQ (k:=k) 0 hm
 simp only [ei,kq,hb,nT,nS,if_true,hr]
 cases r with
 |none=>simp at hm';simp [hm']
 |some jv=>
  obtain ⟨n,q,_,b,c,_⟩:=hm'
  obtain ⟨j,v⟩:=jv
  simp only at c
  subst c
  simp [b]
end
end Go.AM
namespace Go.AM
open Go Go.Proofs
noncomputable section
theorem D2{α:Type}{enc:α→List AV}{sz:Nat}(he:∀ a,(enc a).length=sz)(x:Sl α)(h:ag):Row enc sz h (aq enc sz x) x.l:=by
 cases x with
 |none=>exact ⟨rfl,rfl⟩
 |some l=>
  refine ⟨rfl,?_⟩
  have hl:(l.flatMap enc).length=l.length*sz:=gK he l
  simp only [aq,iy,Sl.l_some,Nat.zero_add,hl,beq_self_eq_true,Nat.le_refl,decide_true,Bool.and_self,if_true,List.drop_zero]
  rw [← hl,List.take_length]
structure dO where
 kind:Int
 neg:Bool
 name:bC
 args:Sl bC
structure aB where
 name:bC
 args:Sl bC
 body:Sl dO
def bO(c:dO):List AV:=[.int .i64 c.kind,.bool c.neg,.str c.name,aq encS 1 c.args]
def ig(nm:bC)(xs:Sl bC):List AV:=[.str nm,aq encS 1 xs]
def aL(r:aB):List AV:=[.str r.name,aq encS 1 r.args,aq bO 4 r.body]
theorem gl(c:dO):(bO c).length=4:=rfl
theorem eN(r:aB):(aL r).length=3:=rfl
theorem A0(c:dO):AV.pureL (bO c)=true:=by simp [bO,AV.pureL,AV.pure,bF gH]
theorem dR(r:aB):AV.pureL (aL r)=true:=by simp [aL,AV.pureL,AV.pure,bF gH,bF A0]
theorem wH(nm:bC)(xs:Sl bC):br (ig nm xs)=true:=by
 unfold ig;simp only [br,jm,Bool.and_true];rfl
theorem gm(c:dO):br (bO c)=true:=by
 unfold bO;simp only [br,jm,Bool.and_true];rfl
theorem ij(r:aB):br (aL r)=true:=by
 unfold aL;simp only [br,jm,Bool.and_true];rfl
def dO.ok(c:dO):Prop:=c.name.length≤cm∧c.args.l.length≤cm∧∀ s ∈ c.args.l,s.length≤cm
def aB.ok(r:aB):Prop:=r.name.length≤cm∧r.args.l.length≤cm∧(∀ s ∈ r.args.l,s.length≤cm)∧r.body.l.length≤cm∧∀ c ∈ r.body.l,c.ok
theorem Ig(a b c d:AV):hG (some 2) [a,b,c,d] 2=some (.agg [c,d]):=rfl
theorem Ih(a b c:AV):hG (some 2) [a,b,c] 0=some (.agg [a,b]):=rfl
theorem zo(a b c d:AV):hG (some 4) [a,b,c,d] 0=some (.agg [a,b,c,d]):=rfl
theorem lM(a b c:AV):hG (some 3) [a,b,c] 0=some (.agg [a,b,c]):=rfl
theorem iq{x:Sl bC}{i:Nat}{v:bC}(hv:x.l[i]?=some v){h:ag}:ai none (.iptr (x.l.flatMap encS) (i*1)) h=some (.str v):=by
 rw [oW gL hv];rfl
theorem Cc{x:Sl bC}(hx:x.l.length≤cm){g:FuncId}{a b:List AV}{h:ag}{p:bC→Bool}(hp:∀ (v:bC) (K:Out→ag→Bool),K (.ret (.bool (p v))) h=true→Sem Tryz.prog g (a++([.str v]++b)) h K)
  {K:Out→ag→Bool} (hK:∀ n:Int,decide (0≤n)=x.l.any p→K (.ret (.int .i64 n)) h=true):Sem Tryz.prog 190 [aq encS 1 x,.func g a b] h K:=by
 refine F.jD ?_
 rw [F.jJ]
 simp only [aQ,Nat.reduceAdd,Nat.reduceEqDiff,reduceIte]
 refine aE 0 x.l.length (Nat.zero_le _) (fun i e h'=>h'=h∧e 0=aq encS 1 x∧e 1 = .func g a b∧e 7 = .int .i64 (x.l.length:Int)∧e 8 = .int .i64 (i:Int)∧(x.l.take i).any p=false) ⟨rfl,rfl,rfl,rfl,rfl,rfl⟩ ?_ ?_
 ·rintro i e h' _ hi ⟨rfl,e0,e1,e7,e8,ht⟩ K' hn hx' hr hp'
  have hv:x.l[i]?=some x.l[i]:=List.getElem?_eq_getElem hi
  rw [F.bu.aN]
  simp only [e0,e1,e7,e8,aQ,Nat.reduceAdd,Nat.reduceEqDiff,reduceIte,bf hi,aS x hi,iq hv,callV_func]
  refine ak (hp _ _ ?_)
  simp only [aQ,Nat.reduceAdd,Nat.reduceEqDiff,reduceIte]
  cases hq:p x.l[i] with
  |true=>
   simp only [aC]
   rw [hr,F.bu.aZ]
   refine hK (i:Int) ?_
   rw [decide_eq_true (by omega:(0:Int)≤(i:Int))]
   exact (List.any_eq_true.2 ⟨_,List.mem_of_getElem? hv,hq⟩).symm
  |false=>
   simp only [aD,aK hi hx,bindO_some]
   exact hn _ _ ⟨rfl,e0,e1,e7,rfl,by rw [List.take_add_one,hv,List.any_append,ht];simp [hq]⟩
 ·rintro e h' ⟨rfl,e0,e1,e7,e8,ht⟩ K' hx'
  rw [F.bu.aN]
  simp only [e0,e1,e7,e8,aQ,Nat.reduceAdd,Nat.reduceEqDiff,reduceIte,aT]
  rw [hx',F.bu.aG]
  rw [List.take_of_length_le (Nat.le_refl _)] at ht
  exact hK (-1) (by rw [ht];rfl)
theorem wI{x:Sl bC}(hx:x.l.length≤cm){g:FuncId}{a b:List AV}{h:ag}{p:bC→Bool}(hp:∀ (v:bC) (K:Out→ag→Bool),K (.ret (.bool (p v))) h=true→Sem Tryz.prog g (a++([.str v]++b)) h K)
  {K:Out→ag→Bool} (hK:K (.ret (.bool (x.l.any p))) h=true):Sem Tryz.prog 168 [aq encS 1 x,.func g a b] h K:=by
 refine F.iV ?_
 rw [F.jc]
 refine ak (Cc hx hp fun n hn=>?_)
 simp only [aQ,Nat.reduceAdd,Nat.reduceEqDiff,reduceIte]
 rw [hn];exact hK
theorem D3{s:bC}{h:ag}{K:Out→ag→Bool}(hK:K (.ret (.bool (!ec s))) h=true):Sem Tryz.prog 169 [.str s] h K:=by
 refine F.wg ?_
 rw [F.yx]
 refine ak (dQ ?_)
 simp only [aQ,Nat.reduceAdd,Nat.reduceEqDiff,reduceIte]
 exact hK
theorem Nx{α:Type}(p:α→Bool)(l:List α):(!(l.any fun x=>!p x))=l.all p:=by
 induction l with
 |nil=>rfl
 |cons a l ih=>rw [List.any_cons,List.all_cons,← ih];cases p a<;>simp
theorem Ny{α:Type}(p:α→Bool):∀ (l:List α) (h:l.length=2),l.all p=(p (l[0]'(by omega))&&p (l[1]'(by omega)))
 |[a,b],_=>by simp
def kS(nm:bC)(xs:List bC):Bool:=ec nm&&(decide (xs.length≤12)&&xs.all ec)
theorem A1{nm:bC}{xs:Sl bC}(hx:xs.l.length≤cm){h:ag}{K:Out→ag→Bool}(hK:K (.ret (.bool (kS nm xs.l))) h=true):Sem Tryz.prog 130 [.agg [.str nm,aq encS 1 xs]] h K:=by
 refine Sem.data (r:=.bool (kS nm xs.l)) ?_ (by simp [AV.pureL,AV.pure,bF gH]) hK
 clear hK
 refine F.As ?_
 rw [F.BW]
 have g0:(ag.alloc ag.empty (.cells (ig nm xs))).get 0=some (.cells (ig nm xs)):=aI _ _
 have hb:ew (.agg [.str nm,aq encS 1 xs])=some (ig nm xs):=cA (wH nm xs)
 simp only [hb,bindO_some,bp]
 generalize (ag.alloc ag.empty (.cells (ig nm xs)))=H at g0 ⊢
 have fin:∀ b:Bool,b=kS nm xs.l→mS (.bool (kS nm xs.l)) (.ret (.bool b)) H=true:=fun b hb=>by rw [hb];exact cK rfl
 simp only [aQ,Nat.reduceAdd,Nat.reduceEqDiff,reduceIte,an g0,ig]
 refine ak (dQ ?_)
 simp only [aQ,Nat.reduceAdd,Nat.reduceEqDiff,reduceIte]
 cases hn:ec nm with
 |false=>simp only [aD];exact fin _ (by simp [kS,hn])
 |true=>
  simp only [aC,aQ,Nat.reduceAdd,Nat.reduceEqDiff,reduceIte,an g0,ig]
  by_cases h12:xs.l.length≤12
  ·simp only [decide_eq_true (by omega:(xs.l.length:Int)≤12),aC,aQ,Nat.reduceAdd,Nat.reduceEqDiff,reduceIte,an g0,ig]
   refine ak (wI hx (p:=fun s=>!ec s) (fun v K hK=>D3 hK) ?_)
   simp only [aQ,Nat.reduceAdd,Nat.reduceEqDiff,reduceIte]
   exact fin _ (by rw [Nx];simp [kS,hn,h12])
  ·simp only [decide_eq_false (by omega:¬ (xs.l.length:Int)≤12),aD]
   exact fin _ (by simp [kS,h12])
def fT(c:dO):Bool:=if c.kind=0 then kS c.name c.args.l else if c.kind=1∨c.kind=2 then decide (c.name = [])&&(decide (c.args.l.length=2)&&c.args.l.all ec) else false
theorem fF{c:dO}(hc:c.ok){h:ag}{K:Out→ag→Bool}(hK:K (.ret (.bool (fT c))) h=true):Sem Tryz.prog 132 [.agg [.int .i64 c.kind,.bool c.neg,.str c.name,aq encS 1 c.args]] h K:=by
 refine Sem.data (r:=.bool (fT c)) ?_ (by simp [AV.pureL,AV.pure,bF gH]) hK
 clear hK
 refine F.sU ?_
 rw [F.tX]
 have g0:(ag.alloc ag.empty (.cells (bO c))).get 0=some (.cells (bO c)):=aI _ _
 have hb:ew (.agg [.int .i64 c.kind,.bool c.neg,.str c.name,aq encS 1 c.args])=some (bO c):=cA (gm c)
 simp only [hb,bindO_some,bp]
 generalize (ag.alloc ag.empty (.cells (bO c)))=H at g0 ⊢
 have fin:∀ b:Bool,b=fT c→mS (.bool (fT c)) (.ret (.bool b)) H=true:=fun b hb=>by rw [hb];exact cK rfl
 generalize mS (.bool (fT c))=R at fin ⊢
 simp only [aQ,Nat.reduceAdd,Nat.reduceEqDiff,reduceIte,an g0,bO,ct,Ig]
 by_cases k0:c.kind=0
 ·simp only [decide_eq_true k0,aC]
  refine ak (A1 hc.2.1 ?_)
  simp only [aQ,Nat.reduceAdd,Nat.reduceEqDiff,reduceIte]
  exact fin _ (by simp [fT,k0])
 simp only [decide_eq_false k0,aD]
 have J:∀ (e:Env) (b:Bool),e 1 = .ptr 0 0→e 10 = .bool b→(b=true↔(c.kind=1∨c.kind=2))→F.fF.J0 R ⟨e,40,[],H⟩=true:=by
  intro e b e1 e10 hb
  rw [F.fF.Au]
  simp only [e1,e10,aQ,Nat.reduceAdd,Nat.reduceEqDiff,reduceIte]
  cases b with
  |false=>
   simp only [aD]
   have:¬ (c.kind=1∨c.kind=2):=fun h=>by have:=hb.2 h;cases this
   exact fin _ (by simp [fT,k0,this])
  |true=>
   have hk:=hb.1 rfl
   have hc1:fT c=(decide (c.name = [])&&(decide (c.args.l.length=2)&&c.args.l.all ec)):=by simp only [fT,if_neg k0,if_pos hk]
   rw [hc1] at fin
   simp only [aC,aQ,Nat.reduceAdd,Nat.reduceEqDiff,reduceIte,an g0,bO,nC]
   by_cases hn:c.name = []
   ·simp only [decide_eq_true hn,aC,aQ,Nat.reduceAdd,Nat.reduceEqDiff,reduceIte,an g0,bO,ct]
    by_cases h2:c.args.l.length=2
    ·simp only [decide_eq_true (by omega:(c.args.l.length:Int)=2),aC,aQ,Nat.reduceAdd,Nat.reduceEqDiff,reduceIte,an g0,bO]
     have v0:c.args.l[0]?=some c.args.l[0]:=List.getElem?_eq_getElem (by omega)
     have v1:c.args.l[1]?=some c.args.l[1]:=List.getElem?_eq_getElem (by omega)
     have hall:c.args.l.all ec=(ec c.args.l[0]&&ec c.args.l[1]):=Ny ec _ h2
     have i0:=aS (enc:=encS) (sz:=1) (k:=.i64) c.args (i:=0) (by omega)
     have i1:=aS (enc:=encS) (sz:=1) (k:=.i64) c.args (i:=1) (by omega)
     have l0:=fun h=>iq (x:=c.args) v0 (h:=h)
     have l1:=fun h=>iq (x:=c.args) v1 (h:=h)
     simp only [show ((0:Nat):Int)=0 from rfl,show ((1:Nat):Int)=1 from rfl] at i0 i1
     simp only [i0,i1,l0,l1,aQ,Nat.reduceAdd,Nat.reduceEqDiff,reduceIte]
     refine ak (dQ ?_)
     simp only [aQ,Nat.reduceAdd,Nat.reduceEqDiff,reduceIte]
     rw [hall] at fin
     cases n0:ec c.args.l[0] with
     |false=>simp only [aD];exact fin _ (by simp [n0])
     |true=>
      simp only [aC,aQ,Nat.reduceAdd,Nat.reduceEqDiff,reduceIte,an g0,bO,i0,i1,l0,l1]
      refine ak (dQ ?_)
      simp only [aQ,Nat.reduceAdd,Nat.reduceEqDiff,reduceIte]
      exact fin _ (by simp [n0,hn,h2])
    ·simp only [decide_eq_false (by omega:¬ (c.args.l.length:Int)=2),aD]
     exact fin _ (by simp [h2])
   ·simp only [decide_eq_false hn,aD]
    exact fin _ (by simp [hn])
 by_cases k1:c.kind=1
 ·simp only [decide_eq_true k1,aC]
  exact J _ true rfl rfl (by simp [k1])
 ·simp only [decide_eq_false k1,aD]
  exact J _ (decide (c.kind=2)) rfl rfl (by simp [k1])
end
end Go.AM
namespace Go.AM
open Go Go.Proofs
noncomputable section
theorem I1{k:Nat}{h:ag}{a:AV}{l:List bC}{s:bC}(o:Own encS 1 k h a l)(hl:l.length≤cm){K:Out→ag→Bool}
  (hK:∀ n:Int,decide (0≤n)=(l.any fun x=>s==x)→K (.ret (.int .i64 n)) h=true):Sem Tryz.prog 157 [a,.str s] h K:=by
 refine F.gN ?_
 rw [F.gX]
 simp only [o.len,aQ,Nat.reduceAdd,Nat.reduceEqDiff,reduceIte]
 refine aE 0 l.length (Nat.zero_le _) (fun i e h'=>h'=h∧e 0=a∧e 1 = .str s∧e 7 = .int .i64 (l.length:Int)∧e 8 = .int .i64 (i:Int)∧((l.take i).any fun x=>s==x)=false) ⟨rfl,rfl,rfl,rfl,rfl,rfl⟩ ?_ ?_
 ·rintro i e h' _ hi ⟨rfl,e0,e1,e7,e8,ht⟩ K' hn hx' hr hp'
  have hv:l[i]?=some l[i]:=List.getElem?_eq_getElem hi
  generalize l[i]=x at hv
  obtain ⟨b,_,g1,g2⟩:=vm o hv
  rw [F.bz.aN]
  simp only [e0,e1,e7,e8,aQ,Nat.reduceAdd,Nat.reduceEqDiff,reduceIte,bf hi,g1,g2]
  cases hq:s==x with
  |true=>
   simp only [aC]
   rw [hr,F.bz.aZ]
   refine hK (i:Int) ?_
   rw [decide_eq_true (by omega:(0:Int)≤(i:Int))]
   exact (List.any_eq_true.2 ⟨_,List.mem_of_getElem? hv,hq⟩).symm
  |false=>
   simp only [aD,aK hi hl,bindO_some]
   exact hn _ _ ⟨rfl,e0,e1,e7,rfl,ru hv ht hq⟩
 ·rintro e h' ⟨rfl,e0,e1,e7,e8,ht⟩ K' hx'
  rw [F.bz.aN]
  simp only [e0,e1,e7,e8,aQ,Nat.reduceAdd,Nat.reduceEqDiff,reduceIte,aT]
  rw [hx',F.bz.aG]
  rw [List.take_of_length_le (Nat.le_refl _)] at ht
  exact hK (-1) (by rw [ht];rfl)
theorem D5{k:Nat}{h:ag}{a:AV}{l:List bC}{s:bC}(o:Own encS 1 k h a l)(hl:l.length≤cm){K:Out→ag→Bool}
  (hK:K (.ret (.bool (l.any fun x=>s==x))) h=true):Sem Tryz.prog 155 [a,.str s] h K:=by
 refine F.jK ?_
 rw [F.jU]
 refine ak (I1 o hl fun n hn=>?_)
 simp only [aQ,Nat.reduceAdd,Nat.reduceEqDiff,reduceIte]
 rw [hn];exact hK
def wJ(o:List bC)(s:bC):List bC:=if (o.any fun x=>s==x)=true then o else o++[s]
def eA(o l:List bC):List bC:=l.foldl wJ o
theorem xO{o l:List bC}{i:Nat}{s:bC}(hs:l[i]?=some s):eA o (l.take (i+1))=wJ (eA o (l.take i)) s:=by
 unfold eA;rw [List.take_add_one,hs];simp
theorem KF(o:List bC)(s:bC):(wJ o s).length≤o.length+1:=by
 unfold wJ;split<;>simp
theorem mY:∀ (l o:List bC),(eA o l).length≤o.length+l.length
 |[],o=>Nat.le_refl _
 |s :: l,o=>by
  have h1:=mY l (wJ o s)
  have h2:=KF o s
  show (eA (wJ o s) l).length≤_
  rw [List.length_cons];omega
theorem ry{α:Type}{enc:α→List AV}{sz k:Nat}{h:ag}{a:AV}{l:List α}(o:Own enc sz k h a l):a.dP = [a]∧br [a]=true:=by
 cases o<;>exact ⟨rfl,rfl⟩
theorem I2{α:Type}{enc:α→List AV}{sz k:Nat}{h:ag}{a b:AV}{l:List α}{V:Nat}(o:Own enc sz k h a l)(hV:h.get V=some (.cells [b])):bL 1 (.ptr V 0) a h=some (h.set V (.cells [a])):=by
 obtain ⟨h1,h2⟩:=ry o
 rw [dV (n:=1) hV (by rw [h1];rfl) (by rw [h1];exact h2) (by simp),h1];rfl
theorem Oi(s:bC):fR [.str []] [(0,1)] [.str s]=some (encS s):=rfl
theorem xP{V k:Nat}{h:ag}{a:AV}{l:List bC}{xs:Sl bC}(hV:h.get V=some (.cells [a]))(hVk:V<k)(o:Own encS 1 k h a l)(hk:k≤h.next)(hlen:l.length+xs.l.length≤100000000){K:Out→ag→Bool}
  (hK:∀ a' h',h'.get V=some (.cells [a'])→Own encS 1 k h' a' (eA l xs.l)→(∀ c,c<k→c≠V→h'.get c=h.get c)→h.next≤h'.next→K (.ret (.tuple [])) h'=true):Sem Tryz.prog 154 [aq encS 1 xs,.ptr V 0] h K:=by
 refine F.qh ?_
 rw [F.qS]
 simp only [aQ,Nat.reduceAdd,Nat.reduceEqDiff,reduceIte]
 refine aE 0 xs.l.length (Nat.zero_le _) (fun i e h'=>∃ a',h'.get V=some (.cells [a'])∧Own encS 1 k h' a' (eA l (xs.l.take i))∧(∀ c,c<k→c≠V→h'.get c=h.get c)∧h.next≤h'.next ∧
  e 1 = .ptr V 0∧e 5=aq encS 1 xs∧e 6 = .int .i64 (xs.l.length:Int)∧e 7 = .int .i64 (i:Int)) ⟨a,hV,by simpa [eA] using o,fun _ _ _=>rfl,Nat.le_refl _,rfl,rfl,rfl,rfl⟩ ?_ ?_
 ·rintro i e h' _ hi ⟨a',gV,o',fr,hn',e1,e5,e6,e7⟩ K' hn hx hr hp
  have hv:xs.l[i]?=some xs.l[i]:=List.getElem?_eq_getElem hi
  generalize xs.l[i]=s at hv
  have hlb:(eA l (xs.l.take i)).length≤100000000:=by
   have h1:=mY (xs.l.take i) l
   have h2:=List.length_take_le i xs.l
   omega
  rw [F.dK.aN]
  simp only [e1,e5,e6,e7,aQ,Nat.reduceAdd,Nat.reduceEqDiff,reduceIte,bf hi,aS xs hi,iq hv,an gV]
  refine ak (D5 o' (by unfold cm;omega) ?_)
  simp only [aQ,Nat.reduceAdd,Nat.reduceEqDiff,reduceIte]
  have hstep:=xO (o:=l) hv
  unfold wJ at hstep
  cases hq:(eA l (xs.l.take i)).any fun x=>s==x with
  |true=>
   rw [hq,if_pos rfl] at hstep
   simp only [Bool.not_true,aD,aK hi (show xs.l.length≤cm by unfold cm;omega),bindO_some]
   exact hn _ _ ⟨a',gV,by rw [hstep];exact o',fr,hn',e1,e5,e6,rfl⟩
  |false=>
   rw [hq,if_neg (by simp)] at hstep
   obtain ⟨a2,h2,p1,p2,p3,p4,p5,p6⟩:=o'.push gL mW (by omega) (bytes:=16) (by unfold dm;omega) s
   have gV2:h2.get V=some (.cells [a']):=by
    rw [p3 V (by omega) (fun hb=>by have:=o'.ge hb;omega)];exact gV
   have hst:=I2 p2 gV2
   simp only [Bool.not_false,aC,e1,an gV,aQ,Nat.reduceAdd,Nat.reduceEqDiff,reduceIte,Oi,p1,hst,aK hi (show xs.l.length≤cm by unfold cm;omega)]
   refine hn _ _ ⟨a2,by rw [ag.aO,if_pos rfl],by rw [hstep];exact p2.pH hVk _,fun c hc hcV=>?_,by rw [ag.next_set];omega,e1,e5,e6,rfl⟩
   rw [ag.aO,if_neg hcV,p3 c (by omega) (fun hb=>by have:=o'.ge hb;omega),fr c hc hcV]
 ·rintro e h' ⟨a',gV,o',fr,hn',e1,e5,e6,e7⟩ K' hx
  rw [F.dK.aN]
  simp only [e6,e7,aQ,Nat.reduceAdd,Nat.reduceEqDiff,reduceIte,aT]
  rw [hx,F.dK.aG]
  rw [List.take_of_length_le (Nat.le_refl _)] at o'
  exact hK a' h' gV o' fr hn'
def jf(o:List bC)(cs:List dO):List bC:=cs.foldl (fun o c=>eA o c.args.l) o
def varsOf(r:aB):List bC:=jf (eA [] r.args.l) r.body.l
def aB.kH(r:aB):Prop:=r.args.l.length≤1500∧r.body.l.length≤1500∧∀ c ∈ r.body.l,c.args.l.length≤1500
theorem Cd{o:List bC}{cs:List dO}{i:Nat}{c:dO}(hc:cs[i]?=some c):jf o (cs.take (i+1))=eA (jf o (cs.take i)) c.args.l:=by
 unfold jf;rw [List.take_add_one,hc];simp
theorem vo:∀ (cs:List dO) (o:List bC),(∀ c ∈ cs,c.args.l.length≤1500)→(jf o cs).length≤o.length+cs.length*1500
 |[],o,_=>by simp [jf]
 |c :: cs,o,h=>by
  have h1:=vo cs (eA o c.args.l) fun d hd=>h d (List.mem_cons_of_mem _ hd)
  have h2:=mY c.args.l o
  have h3:=h c List.mem_cons_self
  show (jf (eA o c.args.l) cs).length≤_
  rw [List.length_cons];omega
theorem Fv{r:aB}(hf:r.kH)(i:Nat):(jf (eA [] r.args.l) (r.body.l.take i)).length≤3000000:=by
 have h1:=vo (r.body.l.take i) (eA [] r.args.l) fun c hc=>hf.2.2 c (List.mem_of_mem_take hc)
 have h2:=mY r.args.l []
 have h3:=List.length_take_le i r.body.l
 have h4:=List.length_take_le' i r.body.l
 have:=hf.1;have:=hf.2.1
 simp only [List.length_nil] at h2
 omega
theorem cV{r:aB}(hf:r.kH){h:ag}{K:Out→ag→Bool}(hK:∀ x:Sl bC,x.l=varsOf r→K (.ret (aq encS 1 x)) h=true) :
  Sem Tryz.prog 108 [.agg [.str r.name,aq encS 1 r.args,aq bO 4 r.body]] h K:=by
 have main:Sem Tryz.prog 108 [.agg [.str r.name,aq encS 1 r.args,aq bO 4 r.body]] ag.empty (fun o h'=>yes (∃ v,∃ x:Sl bC,o = .ret v∧x.l=varsOf r∧Fz true h' v (aq encS 1 x))):=by
  refine F.sR ?_
  rw [F.tW]
  have hb:ew (.agg [.str r.name,aq encS 1 r.args,aq bO 4 r.body])=some (aL r):=cA (ij r)
  simp only [hb,bindO_some,bp,ag.next_alloc]
  have g0:(ag.alloc (ag.alloc ag.empty (.cells (aL r))) (.cells [.nils])).get 0=some (.cells (aL r)):=by simp [ag.aV,bp]
  have g1:(ag.alloc (ag.alloc ag.empty (.cells (aL r))) (.cells [.nils])).get 1=some (.cells [.nils]):=by simp [ag.aV,bp]
  have gn:(ag.alloc (ag.alloc ag.empty (.cells (aL r))) (.cells [.nils])).next=2:=rfl
  generalize (ag.alloc (ag.alloc ag.empty (.cells (aL r))) (.cells [.nils]))=H at g0 g1 gn ⊢
  simp only [aQ,Nat.reduceAdd,Nat.reduceEqDiff,reduceIte,an g0,aL]
  refine ak (xP g1 (by omega) (Own.nil (k:=2)) (by omega) (by have:=hf.1;simp only [List.length_nil];omega) fun a h1 q1 q2 q3 q4=>?_)
  have g0':h1.get 0=some (.cells (aL r)):=by rw [q3 0 (by omega) (by omega)];exact g0
  simp only [aQ,Nat.reduceAdd,Nat.reduceEqDiff,reduceIte,an g0',aL]
  refine aE 0 r.body.l.length (Nat.zero_le _) (fun i e h'=>∃ a',h'.get 1=some (.cells [a'])∧Own encS 1 2 h' a' (jf (eA [] r.args.l) (r.body.l.take i))∧2≤h'.next ∧
   e 3 = .ptr 1 0∧e 4 = .func 154 [] [.ptr 1 0]∧e 14=aq bO 4 r.body∧e 15 = .int .i64 (r.body.l.length:Int)∧e 16 = .int .i64 (i:Int)) ⟨a,q1,by simpa [jf] using q2,by omega,rfl,rfl,rfl,rfl,rfl⟩ ?_ ?_
  ·rintro i e h' _ hi ⟨a',gV,o',hn',e3,e4,e14,e15,e16⟩ K' hn hx hr hp
   have hv:r.body.l[i]?=some r.body.l[i]:=List.getElem?_eq_getElem hi
   generalize r.body.l[i]=c at hv
   have hc15:=hf.2.2 c (List.mem_of_getElem? hv)
   obtain ⟨H2,hs,k1,ko,kn⟩:=cL (h:=h') (zs:=[.int .i64 0,.bool false,.str [],.nils]) (cs:=bO c) (n:=4) rfl rfl (gm c)
   have x2:bR h' H2:=⟨by omega,fun b hb=>ko b (by omega)⟩
   have gV2:H2.get 1=some (.cells [a']):=by rw [x2.get 1 (by omega)];exact gV
   rw [F.cV.aN]
   simp only [e3,e4,e14,e15,e16,aQ,Nat.reduceAdd,Nat.reduceEqDiff,reduceIte,bf hi,aS r.body hi,cZ gl hv,hs]
   simp only [aQ,Nat.reduceAdd,Nat.reduceEqDiff,reduceIte,an k1,bO,callV_func,List.nil_append,List.cons_append]
   refine ak (xP (xs:=c.args) gV2 (by omega) (o'.ext x2) (by omega) (by have:=Fv hf i;omega) fun a3 h3 s1 s2 s3 s4=>?_)
   simp only [aQ,Nat.reduceAdd,Nat.reduceEqDiff,reduceIte,aK hi (show r.body.l.length≤cm by have:=hf.2.1;unfold cm;omega)]
   refine hn _ _ ⟨a3,s1,by rw [Cd hv];exact s2,by omega,e3,e4,e14,e15,rfl⟩
  ·rintro e h' ⟨a',gV,o',hn',e3,e4,e14,e15,e16⟩ K' hx
   rw [F.cV.aN]
   simp only [e15,e16,aQ,Nat.reduceAdd,Nat.reduceEqDiff,reduceIte,aT]
   rw [hx,F.cV.aG]
   simp only [e3,aQ,Nat.reduceAdd,Nat.reduceEqDiff,reduceIte,an gV]
   rw [List.take_of_length_le (Nat.le_refl _)] at o'
   obtain ⟨x,hx1,hx2⟩:=o'.Ft (fun v y hy=>by
    simp only [encS,List.mem_cons,List.not_mem_nil,or_false] at hy
    subst hy;exact .scalar _ rfl)
   exact cw.2 ⟨a',x,rfl,hx1,hx2⟩
 refine main.frozen (by have:=dR r;simpa [aL,AV.pureL,AV.pure] using this) fun o h' ho=>?_
 obtain ⟨v,x,rfl,hx,hfz⟩:=cw.1 ho
 exact ⟨v,_,rfl,hfz,hK x hx⟩
end
end Go.AM
namespace Go.AM
open Go Go.Proofs
noncomputable section
theorem bS(b o:Nat):b6 (.ptr b o)=some (.ptr b o):=rfl
theorem Fw{d:TypeDesc}{k:AV}:∀ {es:List Entry} {i j:Nat} {v:AV},iQ d k es i=some (some (j,v))→∃ n e,j=i+n∧es[n]?=some e
 |[],i,j,v,h=>by simp [iQ] at h
 |e :: es,i,j,v,h=>by
  simp only [iQ] at h
  split at h
  ·cases h;exact ⟨0,e,rfl,rfl⟩
  ·obtain ⟨n,f,h1,h2⟩:=Fw h
   exact ⟨n+1,f,by omega,by simpa using h2⟩
  ·cases h
theorem xQ:∀ {es:List Entry} {i j:Nat} {e:Entry},(es.map (·.2.2)).Nodup→es[i]?=some e→mN (e.2.2:Int) es j=some (j+i)
 |[],i,j,e,_,h=>by simp at h
 |f :: es,0,j,e,_,h=>by
  simp only [List.getElem?_cons_zero,Option.some.injEq] at h
  subst h;simp [mN]
 |f :: es,i+1,j,e,hn,h=>by
  rw [List.map_cons,List.nodup_cons] at hn
  rw [List.getElem?_cons_succ] at h
  have hne:¬ ((f.2.2:Int)=(e.2.2:Int)):=fun heq=>hn.1 (by
   have:f.2.2=e.2.2:=by omega
   rw [this];exact List.mem_map_of_mem (List.mem_of_getElem? h))
  rw [mN,if_neg hne,xQ hn.2 h]
  congr 1;omega
theorem I3{b:Nat}{h:ag}{es:List Entry}{ck:Nat}{m:dF}(hb:h.get b=some (.map es ck))(hm:jC es m)(hB:je es ck){k:bC}{q:Int}(hk:m.find k=some q)(v:Int) :
  ∃ es' born,j4 .string (.int .i64 0) (.map b) (.str k) h=some (.tuple [.int .i64 q,.int .i64 born],h)∧iu (.map b) (.int .i64 born) (.int .i64 v) h=some (h.set b (.map es' ck))∧jC es' (m.oZ k v)∧je es' ck:=by
 obtain ⟨r,hr,hm'⟩:=jC.iQ (k:=k) 0 hm
 cases r with
 |none=>simp only at hm';rw [hk] at hm';cases hm'
 |some jv=>
  obtain ⟨n,q',hj,b',c,_,e⟩:=hm'
  obtain ⟨j,w⟩:=jv
  simp only [Nat.zero_add] at hj c
  subst hj;subst c
  rw [hk] at b';cases b'
  obtain ⟨n,f,h1,h2⟩:=Fw hr
  rw [Nat.zero_add] at h1;subst h1
  refine ⟨eO es j (.int .i64 v),(f.2.2:Int),?_,?_,e v,hB.set _ _⟩
  ·simp only [j4,hb,nT,nS,if_true,hr,Dq,h2]
  ·have:=xQ (j:=0) hB.nodup h2
   rw [Nat.zero_add] at this
   simp only [iu,hb,this]
structure fC (hs:List bC) (h:ag) (M:Nat) (ks:List bC) (lv:Lev.Lv):Prop where
 ex:∃ es ck m,h.get M=some (.map es ck)∧jC es m∧je es ck∧m.map (·.1)=ks∧∀ x,m.find x=if x ∈ hs then some (lv x:Int) else none
theorem fC.keep{hs:List bC}{h h':ag}{M:Nat}{ks:List bC}{lv:Lev.Lv}(l:fC hs h M ks lv)(he:h'.get M=h.get M):fC hs h' M ks lv:=by
 obtain ⟨es,ck,m,h1,h2⟩:=l.ex
 exact ⟨es,ck,m,by rw [he];exact h1,h2⟩
def eU(r:aB)(c:dO):Lev.Edge:=⟨c.name,if c.neg then 1 else 0,r.name⟩
def kD(hs:List bC)(r:aB)(c:dO):List Lev.Edge:=if c.kind=0∧c.name ∈ hs then [eU r c] else []
def mg(hs:List bC)(r:aB)(cs:List dO):List Lev.Edge:=cs.flatMap (kD hs r)
def jz(hs:List bC)(rs:List aB):List Lev.Edge:=rs.flatMap fun r=>mg hs r r.body.l
theorem xR{hs:List bC}{r:aB}{cs:List dO}{j:Nat}{c:dO}(hc:cs[j]?=some c):mg hs r (cs.take (j+1))=mg hs r (cs.take j)++kD hs r c:=by
 unfold mg;rw [List.take_add_one,hc];simp
theorem A2{hs:List bC}{rs:List aB}{i:Nat}{r:aB}(hr:rs[i]?=some r):jz hs (rs.take (i+1))=jz hs (rs.take i)++mg hs r r.body.l:=by
 unfold jz;rw [List.take_add_one,hr];simp
end
end Go.AM
namespace Go.AM
open Go Go.Proofs
noncomputable section
theorem fC.look{hs:List bC}{h:ag}{M:Nat}{ks:List bC}{lv:Lev.Lv}(l:fC hs h M ks lv)(k:bC) :
  ei .string (.int .i64 0) true (.map M) (.str k) h=some (.tuple [.int .i64 (if k ∈ hs then (lv k:Int) else 0),.bool (decide (k ∈ hs))]):=by
 obtain ⟨es,ck,m,h1,h2,h3,h4,h5⟩:=l.ex
 rw [pe h1 h2,h5]
 by_cases hk:k ∈ hs<;>simp [hk]
theorem fC.Oj{hs:List bC}{h:ag}{M:Nat}{ks:List bC}{lv:Lev.Lv}(l:fC hs h M ks lv)(k:bC) :
  ei .string (.int .i64 0) false (.map M) (.str k) h=some (.int .i64 (if k ∈ hs then (lv k:Int) else 0)):=by
 obtain ⟨es,ck,m,h1,h2,h3,h4,h5⟩:=l.ex
 rw [xN h1 h2,h5]
 by_cases hk:k ∈ hs<;>simp [hk]
theorem fC.SK{hs:List bC}{h:ag}{M:Nat}{ks:List bC}{lv:Lev.Lv}{e:Lev.Edge}(l:fC hs h M ks lv)(hh:e.h ∈ hs)(hlt:lv e.h<lv e.b+e.w) :
  ∃ born h',j4 .string (.int .i64 0) (.map M) (.str e.h) h=some (.tuple [.int .i64 (lv e.h:Int),.int .i64 born],h)∧iu (.map M) (.int .i64 born) (.int .i64 ((lv e.b+e.w:Nat):Int)) h=some h' ∧
   fC hs h' M ks (Lev.gh lv e)∧(∀ b,b≠M→h'.get b=h.get b)∧h'.next=h.next:=by
 obtain ⟨es,ck,m,h1,h2,h3,h4,h5⟩:=l.ex
 have hf:m.find e.h=some (lv e.h:Int):=by rw [h5,if_pos hh]
 obtain ⟨es',born,q1,q2,q3,q4⟩:=I3 h1 h2 h3 hf ((lv e.b+e.w:Nat):Int)
 refine ⟨born,_,q1,q2,⟨es',ck,_,by rw [ag.aO,if_pos rfl],q3,q4,?_,fun x=>?_⟩,fun b hb=>by rw [ag.aO,if_neg hb],ag.next_set _ _ _⟩
 ·rw [Fu,if_pos (List.mem_map.2 ⟨_,ou hf,rfl⟩)];exact h4
 ·rw [su]
  unfold Lev.gh
  rw [if_pos hlt]
  by_cases hx:x=e.h
  ·subst hx;rw [if_pos rfl,if_pos hh,if_pos rfl]
  ·rw [if_neg hx,if_neg hx,h5]
theorem G6{P M:Nat}{A:AV}{rules:Sl aB}{hs ks:List bC}{lv:Lev.Lv}{N:Nat}{h:ag}(hP:h.get P=some (.cells [aq aL 3 rules,A,.map M]))(hl:fC hs h M ks lv)(hPn:P<h.next)(hMn:M<h.next)
  (hr:rules.l.length≤60) (hb:∀ r ∈ rules.l,r.body.l.length≤20∧r.name ∈ hs) (hN:∀ x,lv x≤N) (hNb:N≤1000000) {K:Out→ag→Bool}
  (hK:∀ h',fC hs h' M ks (Lev.round (jz hs rules.l) lv)→(∀ b,b<h.next→b≠M→h'.get b=h.get b)→h.next≤h'.next→K (.ret (.bool (!decide (Lev.de (jz hs rules.l) lv)))) h'=true):Sem Tryz.prog 133 [.ptr P 0] h K:=by
 have hPM:P≠M:=fun e=>by
  obtain ⟨es,ck,m,h1,_⟩:=hl.ex
  rw [e,h1] at hP;cases hP
 refine F.pq ?_
 rw [F.qi]
 simp only [aQ,Nat.reduceAdd,Nat.reduceEqDiff,reduceIte,bS,an hP]
 refine aE 0 rules.l.length (Nat.zero_le _) (fun i e h'=>∃ cur ch,Lev.RS lv cur (jz hs (rules.l.take i)) ch∧fC hs h' M ks cur∧(∀ x,cur x≤N+i*20)∧(∀ b,b<h.next→b≠M→h'.get b=h.get b)∧h.next≤h'.next ∧
  e 0 = .ptr P 0∧e 3 = .bool ch∧e 13=aq aL 3 rules∧e 14 = .int .i64 (rules.l.length:Int)∧e 15 = .int .i64 (i:Int)) ⟨lv,false,Lev.RS.nil lv,hl,by simpa using hN,fun _ _ _=>rfl,Nat.le_refl _,rfl,rfl,rfl,rfl,rfl⟩ ?_ ?_
 ·rintro i e h' _ hi ⟨cur,ch,rs,la,bd,fr,hn',e0,e3,e13,e14,e15⟩ K' hn hx hr' hp
  have hv:rules.l[i]?=some rules.l[i]:=List.getElem?_eq_getElem hi
  generalize rules.l[i]=r at hv
  obtain ⟨hb20,hin⟩:=hb r (List.mem_of_getElem? hv)
  obtain ⟨H,hs1,g1,go,gn⟩:=cL (h:=h') (zs:=[.str [],.nils,.nils]) (cs:=aL r) (n:=3) rfl rfl (ij r)
  rw [F.bl.aN]
  simp only [e0,e3,e13,e14,e15,aQ,Nat.reduceAdd,Nat.reduceEqDiff,reduceIte,bf hi,aS rules hi,cZ eN hv,hs1]
  simp only [aQ,Nat.reduceAdd,Nat.reduceEqDiff,reduceIte,an g1,aL]
  refine aE 0 r.body.l.length (Nat.zero_le _) (fun j e h2=>∃ cur ch,Lev.RS lv cur (jz hs (rules.l.take i)++mg hs r (r.body.l.take j)) ch∧fC hs h2 M ks cur∧(∀ x,cur x≤N+i*20+j)∧(∀ b,b<h.next→b≠M→h2.get b=h.get b)∧h2.get h'.next=some (.cells (aL r))∧h'.next<h2.next ∧
   e 0 = .ptr P 0∧e 3 = .bool ch∧e 5 = .ptr h'.next 0∧e 13=aq aL 3 rules∧e 14 = .int .i64 (rules.l.length:Int)∧e 15 = .int .i64 (i:Int)∧e 20=aq bO 4 r.body∧e 21 = .int .i64 (r.body.l.length:Int)∧e 22 = .int .i64 (j:Int))
   ⟨cur,ch,by simpa [mg] using rs,la.keep (go M (by omega)),by simpa using bd,fun b hb1 hb2=>by rw [go b (by omega)];exact fr b hb1 hb2,g1,by omega,e0,e3,rfl,e13,e14,e15,rfl,rfl,rfl⟩ ?_ ?_
  ·rintro j e h2 _ hj ⟨cur,ch,rs,la,bd,fr,gR,hn2,e0,e3,e5,e13,e14,e15,e20,e21,e22⟩ K2 hn2' hx2 hr2 hp2
   have hc:r.body.l[j]?=some r.body.l[j]:=List.getElem?_eq_getElem hj
   generalize r.body.l[j]=c at hc
   obtain ⟨H2,hs2,k1,ko,kn⟩:=cL (h:=h2) (zs:=[.int .i64 0,.bool false,.str [],.nils]) (cs:=bO c) (n:=4) rfl rfl (gm c)
   have la2:fC hs H2 M ks cur:=la.keep (ko M (by omega))
   have gP2:H2.get P=some (.cells [aq aL 3 rules,A,.map M]):=by rw [ko P (by omega),fr P hPn hPM];exact hP
   have gR2:H2.get h'.next=some (.cells (aL r)):=by rw [ko _ (by omega)];exact gR
   have fr2:∀ b,b<h.next→b≠M→H2.get b=h.get b:=fun b hb1 hb2=>by rw [ko b (by omega)];exact fr b hb1 hb2
   have hbig:r.body.l.length≤cm:=by unfold cm;omega
   have hst:=xR (hs:=hs) (r:=r) hc
   rw [F.bl.dS]
   simp only [e0,e3,e5,e13,e14,e15,e20,e21,e22,aQ,Nat.reduceAdd,Nat.reduceEqDiff,reduceIte,bf hj,aS r.body hj,cZ gl hc,hs2]
   simp only [aQ,Nat.reduceAdd,Nat.reduceEqDiff,reduceIte,an k1,bS,an gP2,bO,la2.look,ct]
   by_cases k0:c.kind=0
   ·simp only [decide_eq_true k0,Bool.not_true,aD]
    by_cases hm:c.name ∈ hs
    ·have hed:kD hs r c = [eU r c]:=by unfold kD;rw [if_pos ⟨k0,hm⟩]
     rw [hed] at hst
     simp only [decide_eq_true hm,Bool.not_true,aD,if_pos hm,aQ,Nat.reduceAdd,Nat.reduceEqDiff,reduceIte,an k1,bO]
     have J:∀ e':Env,e' 0 = .ptr P 0→e' 3 = .bool ch→e' 5 = .ptr h'.next 0→e' 8 = .int .i64 ((cur c.name+(eU r c).w:Nat):Int)→e' 13=aq aL 3 rules→e' 14 = .int .i64 (rules.l.length:Int)→e' 15 = .int .i64 (i:Int)→e' 20=aq bO 4 r.body→e' 21 = .int .i64 (r.body.l.length:Int)→e' 22 = .int .i64 (j:Int) →
       F.bl.J0 K2 ⟨e',71,[],H2⟩=true:=by
      intro e' e0 e3 e5 e8 e13 e14 e15 e20 e21 e22
      rw [F.bl.Au]
      simp only [e0,e5,e8,aQ,Nat.reduceAdd,Nat.reduceEqDiff,reduceIte,bS,an gP2,an gR2,aL,la2.Oj,if_pos hin]
      by_cases hlt:cur r.name<cur c.name+(eU r c).w
      ·obtain ⟨born,h3,q1,q2,q3,q4,q5⟩:=la2.SK (e:=eU r c) hin hlt
       have q1':j4 .string (.int .i64 0) (.map M) (.str r.name) H2=some (.tuple [.int .i64 (cur r.name:Int),.int .i64 born],H2):=q1
       have q2':iu (.map M) (.int .i64 born) (.int .i64 ((cur c.name+(eU r c).w:Nat):Int)) H2=some h3:=q2
       simp only [bf hlt,aC,e0,e5,e8,e22,aQ,Nat.reduceAdd,Nat.reduceEqDiff,reduceIte,bS,an gP2,an gR2,aL,q1',q2',aK hj hbig]
       refine hn2' _ _ ⟨_,true,?_,q3,fun x=>?_,fun b hb1 hb2=>by rw [q4 b hb2];exact fr2 b hb1 hb2,?_,by omega,e0,rfl,e5,e13,e14,e15,e20,e21,rfl⟩
       ·rw [hst,← List.append_assoc];exact rs.up hlt
       ·have:=Lev.qB (e:=eU r c) bd (by unfold eU;simp only;split<;>omega) x;omega
       ·rw [q4 _ (by omega)];exact gR2
      ·simp only [decide_eq_false (by omega:¬ ((cur r.name:Int)<((cur c.name+(eU r c).w:Nat):Int))),aD,e22,aK hj hbig,bindO_some]
       exact hn2' _ _ ⟨cur,ch,by rw [hst,← List.append_assoc];exact rs.same hlt,la2,fun x=>by have:=bd x;omega,fr2,gR2,by omega,e0,e3,e5,e13,e14,e15,e20,e21,rfl⟩
     cases hng:c.neg with
     |true=>
      have hw:(eU r c).w=1:=by unfold eU;simp [hng]
      have hadd:=aK (i:=cur c.name) (n:=2000000) (by have:=bd c.name;omega) (by unfold cm;omega)
      simp only [aC,hadd,bindO_some]
      exact J _ e0 e3 e5 (by rw [hw];rfl) e13 e14 e15 e20 e21 e22
     |false=>
      have hw:(eU r c).w=0:=by unfold eU;simp [hng]
      simp only [aD]
      exact J _ e0 e3 e5 (by rw [hw];rfl) e13 e14 e15 e20 e21 e22
    ·have hed:kD hs r c = []:=by unfold kD;rw [if_neg (fun h=>hm h.2)]
     rw [hed,List.append_nil] at hst
     simp only [decide_eq_false hm,Bool.not_false,aC,aK hj hbig,bindO_some]
     exact hn2' _ _ ⟨cur,ch,by rw [hst];exact rs,la2,fun x=>by have:=bd x;omega,fr2,gR2,by omega,e0,e3,e5,e13,e14,e15,e20,e21,rfl⟩
   ·have hed:kD hs r c = []:=by unfold kD;rw [if_neg (fun h=>k0 h.1)]
    rw [hed,List.append_nil] at hst
    simp only [decide_eq_false k0,Bool.not_false,aC,aK hj hbig,bindO_some]
    exact hn2' _ _ ⟨cur,ch,by rw [hst];exact rs,la2,fun x=>by have:=bd x;omega,fr2,gR2,by omega,e0,e3,e5,e13,e14,e15,e20,e21,rfl⟩
  ·rintro e h2 ⟨cur,ch,rs,la,bd,fr,gR,hn2,e0,e3,e5,e13,e14,e15,e20,e21,e22⟩ K2 hx2
   rw [F.bl.dS]
   simp only [e21,e22,aQ,Nat.reduceAdd,Nat.reduceEqDiff,reduceIte,aT]
   rw [hx2,F.bl.cG]
   simp only [e15,aQ,Nat.reduceAdd,Nat.reduceEqDiff,reduceIte,aK hi (show rules.l.length≤cm by unfold cm;omega),bindO_some]
   rw [List.take_of_length_le (Nat.le_refl _),← A2 hv] at rs
   exact hn _ _ ⟨cur,ch,rs,la,fun x=>by have:=bd x;omega,fr,by omega,e0,e3,e13,e14,rfl⟩
 ·rintro e h' ⟨cur,ch,rs,la,bd,fr,hn',e0,e3,e13,e14,e15⟩ K' hx
  rw [F.bl.aN]
  simp only [e14,e15,aQ,Nat.reduceAdd,Nat.reduceEqDiff,reduceIte,aT]
  rw [hx,F.bl.aG]
  rw [List.take_of_length_le (Nat.le_refl _)] at rs
  obtain ⟨d1,d2⟩:=rs.done
  simp only [bt,Nat.reduceEqDiff,reduceIte,e3]
  rw [d2]
  rw [d1] at la
  exact hK h' la fr hn'
end
end Go.AM
namespace Go.AM
open Go Go.Proofs
noncomputable section
theorem Se(x:Sl aB)(A M:Nat):kJ [.nils,.nilm,.nilm] [(0,1),(1,1),(2,1)] [aq aL 3 x,.map A,.map M]=some (.agg [aq aL 3 x,.map A,.map M]):=by cases x<;>rfl
theorem Sf(x:Sl aB)(A M:Nat):ew (.agg [aq aL 3 x,.map A,.map M])=some [aq aL 3 x,.map A,.map M]:=cA (by simp only [br,jm];rfl)
def A3(m:dF)(nm:bC)(n:Nat):Option dF:=match m.find nm with
 |none=>some (m.oZ nm n)
 |some k=>if k=(n:Int) then some (m.oZ nm n) else none
def mD:List dO→dF→Option dF
 |[],m=>some m
 |c :: cs,m=>bif fT c then (if c.kind=0 then (match A3 m c.name c.args.l.length with|none=>none|some m'=>mD cs m') else mD cs m) else none
def dc:List aB→dF→Option dF
 |[],m=>some m
 |r :: rs,m=>bif kS r.name r.args.l then (match A3 m r.name r.args.l.length with
   |none=>none
   |some m1=>if 20<r.body.l.length then none else if 12<(varsOf r).length then none else match mD r.body.l m1 with
    |none=>none
    |some m2=>dc rs m2) else none
theorem CL{α:Type}{l:List α}{i:Nat}{a:α}(h:l[i]?=some a):l.drop i=a :: l.drop (i+1):=by
 have hi:i<l.length:=(List.getElem?_eq_some_iff.1 h).1
 rw [List.drop_eq_getElem_cons hi]
 rw [List.getElem?_eq_getElem hi] at h
 cases h;rfl
theorem fC.add{hs:List bC}{h:ag}{M:Nat}{ks:List bC}(l:fC hs h M ks (fun _=>0))(hn:ks.Nodup)(nm:bC) :
  ∃ h' ks',eF .string (.map M) (.str nm) (.int .i64 0) h=some h'∧fC (hs++[nm]) h' M ks' (fun _=>0)∧ks'.Nodup∧(∀ b,b≠M→h'.get b=h.get b)∧h'.next=h.next:=by
 obtain ⟨es,ck,m,h1,h2,h3,h4,h5⟩:=l.ex
 obtain ⟨es',ck',q1,q2⟩:=Ab h1 h2 nm 0
 have g:(h.set M (.map es' ck')).get M=some (.map es' ck'):=by rw [ag.aO,if_pos rfl]
 refine ⟨_,(m.oZ nm 0).map (·.1),q1,⟨es',ck',_,g,q2,tB h1 h3 q1 g,rfl,fun x=>?_⟩,CJ (by rw [h4];exact hn) nm 0,fun b hb=>by rw [ag.aO,if_neg hb],ag.next_set _ _ _⟩
 rw [su,h5]
 by_cases hx:x=nm
 ·subst hx;simp
 ·simp [hx]
theorem fC.mem{hs:List bC}{h:ag}{M:Nat}{ks:List bC}{lv:Lev.Lv}(l:fC hs h M ks lv)(x:bC):x ∈ ks↔x ∈ hs:=by
 obtain ⟨es,ck,m,h1,h2,h3,h4,h5⟩:=l.ex
 rw [← h4]
 constructor
 ·intro hx
  obtain ⟨p,hp,rfl⟩:=List.mem_map.1 hx
  have h6:=h5 p.1
  by_cases hh:p.1 ∈ hs
  ·exact hh
  ·rw [if_neg hh] at h6
   unfold dF.find at h6
   rw [Option.map_eq_none_iff,List.find?_eq_none] at h6
   exact absurd (h6 p hp) (by simp)
 ·intro hx
  have h6:=h5 x
  rw [if_pos hx] at h6
  exact List.mem_map.2 ⟨_,ou h6,rfl⟩
theorem fC.len{hs:List bC}{h:ag}{M:Nat}{ks:List bC}{lv:Lev.Lv}(l:fC hs h M ks lv):bQ .map (.map M) h=some (.int .i64 (ks.length:Int)):=by
 obtain ⟨es,ck,m,h1,h2,h3,h4,h5⟩:=l.ex
 have:∀ (es:List Entry) (m:dF),jC es m→es.length=m.length:=by
  intro es
  induction es with
  |nil=>intro m hm;cases m with
   |nil=>rfl
   |cons p m=>exact hm.elim
  |cons e es ih=>intro m hm;cases m with
   |nil=>exact hm.elim
   |cons p m=>rw [List.length_cons,List.length_cons,ih m hm.2.2]
 have hl:=this es m h2
 rw [← h4,List.length_map,← hl]
 simp [bQ,kq,h1]
theorem A4:∀ {E:List Lev.Edge} {L:Lev.Lv} {N:Nat},(∀ e ∈ E,e.w≤1)→(∀ x,L x≤N)→∀ x,E.foldl Lev.gh L x≤N+E.length
 |[],L,N,_,h,x=>h x
 |e :: E,L,N,hw,h,x=>by
  have:=A4 (E:=E) (L:=Lev.gh L e) (N:=N+1) (fun f hf=>hw f (List.mem_cons_of_mem _ hf)) (Lev.qB h (hw e List.mem_cons_self)) x
  rw [List.length_cons]
  show E.foldl Lev.gh (Lev.gh L e) x≤_
  omega
theorem A5(hs:List bC)(r:aB):∀ cs:List dO,(mg hs r cs).length≤cs.length
 |[]=>Nat.le_refl _
 |c :: cs=>by
  have:=A5 hs r cs
  have h1:(kD hs r c).length≤1:=by unfold kD;split<;>simp
  show (kD hs r c++mg hs r cs).length≤_
  rw [List.length_append,List.length_cons];omega
theorem CM(hs:List bC):∀ rs:List aB,(∀ r ∈ rs,r.body.l.length≤20)→(jz hs rs).length≤rs.length*20
 |[],_=>Nat.le_refl _
 |r :: rs,h=>by
  have h1:=CM hs rs fun q hq=>h q (List.mem_cons_of_mem _ hq)
  have h2:=A5 hs r r.body.l
  have h3:=h r List.mem_cons_self
  show (mg hs r r.body.l++jz hs rs).length≤_
  rw [List.length_append,List.length_cons];omega
theorem mZ{hs:List bC}{rs:List aB}{e:Lev.Edge}(he:e ∈ jz hs rs):∃ r ∈ rs,∃ c ∈ r.body.l,c.kind=0∧c.name ∈ hs∧e=eU r c:=by
 obtain ⟨r,hr,he⟩:=List.mem_flatMap.1 he
 obtain ⟨c,hc,he⟩:=List.mem_flatMap.1 he
 unfold kD at he
 split at he
 ·rename_i h;rw [List.mem_singleton] at he;exact ⟨r,hr,c,hc,h.1,h.2,he⟩
 ·cases he
theorem D6(r:aB)(c:dO):(eU r c).w≤1:=by unfold eU;simp only;split<;>omega
theorem fU:∀ {rs:List aB} {m m':dF},dc rs m=some m'→∀ r ∈ rs,kS r.name r.args.l=true∧r.body.l.length≤20∧(varsOf r).length≤12
 |[],_,_,_,r,hr=>by cases hr
 |r0 :: rs,m,m',h,r,hr=>by
  rw [dc] at h
  cases ha:kS r0.name r0.args.l with
  |false=>rw [ha] at h;cases h
  |true=>
   rw [ha,cond_true] at h
   split at h
   ·cases h
   ·split at h
    ·cases h
    ·split at h
     ·cases h
     ·split at h
      ·cases h
      ·rcases List.mem_cons.1 hr with rfl|hr
       ·exact ⟨ha,by omega,by omega⟩
       ·exact fU h r hr
def aY(rs:List aB):List bC:=rs.map (·.name)
def bM(rs:List aB):List Lev.Edge:=jz (aY rs) rs
structure j9 (rs:List aB):Prop where
 kH:rs.length≤60
 go:∃ m,dc rs []=some m
 lev:∃ k,Lev.de (bM rs) (Lev.iter (bM rs) k)
theorem ue{rs:List aB}(h60:rs.length≤60)(h20:∀ r ∈ rs,r.body.l.length≤20):∀ k x,Lev.iter (bM rs) k x≤k*1200
 |0,x=>Nat.zero_le _
 |k+1,x=>by
  have h1:=A4 (E:=bM rs) (L:=Lev.iter (bM rs) k) (N:=k*1200) (fun e he=>by obtain ⟨r,_,c,_,_,_,rfl⟩:=mZ he;exact D6 r c) (ue h60 h20 k) x
  have h2:(bM rs).length≤rs.length*20:=CM _ rs h20
  show (bM rs).foldl Lev.gh (Lev.iter (bM rs) k) x≤_
  omega
end
end Go.AM
namespace Go.AM
open Go Go.Proofs
noncomputable section
def I4(m:dF)(nm:bC)(n:Nat):Bool:=match m.find nm with|none=>true|some k=>decide (k=(n:Int))
theorem CN(m:dF)(nm:bC)(n:Nat):A3 m nm n=if I4 m nm n=true then some (m.oZ nm n) else none:=by
 unfold A3 I4
 cases m.find nm with
 |none=>rfl
 |some k=>by_cases h:k=(n:Int)<;>simp [h]
end
end Go.AM
namespace Go.AM
open Go Go.Proofs
noncomputable section
theorem Fx(n:Int):br (encI n)=true:=rfl
theorem KG(n:Int):fR [.int .i64 0] [(0,1)] [.int .i64 n]=some (encI n):=rfl
theorem KH{s:bC}(h:ec s=true):s.length≤12:=by
 cases s with
 |nil=>exact Nat.zero_le _
 |cons c s=>
  simp only [ec,Bool.and_eq_true] at h
  simp only [decide_eq_true_eq] at h
  omega
theorem A6{nm:bC}{xs:List bC}(h:kS nm xs=true):ec nm=true:=by
 unfold kS at h;rw [Bool.and_eq_true] at h;exact h.1
end
end Go.AM
namespace Go.AM
open Go Go.Proofs
noncomputable section
def eE(t:Sl Int):List AV:=[aq encI 1 t]
theorem Fy(t:Sl Int):(eE t).length=1:=rfl
theorem ov(t:Sl Int):AV.pureL (eE t)=true:=by simp [eE,AV.pureL,bF iL]
theorem iT{l:List (Sl Int)}{i:Nat}{t:Sl Int}(ht:l[i]?=some t){h:ag}:ai none (.iptr (l.flatMap eE) (i*1)) h=some (aq encI 1 t):=by
 rw [oW Fy ht];rfl
section
variable {α:Type} {enc:α→List AV} {sz k:Nat}
end
abbrev PB:=Nat×List Int
def wK(p:PB):List AV:=[.slice p.1 0 p.2.length 1]
theorem A8(p:PB):(wK p).length=1:=rfl
theorem KI(p:PB):br (wK p)=true:=rfl
structure rz (k:Nat) (h:ag) (a:AV) (ps:List PB):Prop where
 own:Own wK 1 k h a ps
 cell:∀ p ∈ ps,k≤p.1∧p.1<h.next∧ep a≠some p.1∧h.get p.1=some (.cells (p.2.map iv))
theorem rz.nil(k:Nat)(h:ag):rz k h .nils []:=⟨.nil,fun p hp=>by cases hp⟩
theorem rz.ext{k:Nat}{h h':ag}{a:AV}{ps:List PB}(n:rz k h a ps)(hx:bR h h'):rz k h' a ps:=
 ⟨n.own.ext hx,fun p hp=>by
  obtain ⟨h1,h2,h3,h4⟩:=n.cell p hp
  exact ⟨h1,Nat.lt_of_lt_of_le h2 hx.next,h3,by rw [hx.get _ h2];exact h4⟩⟩
theorem rz.vp{old:Bool}{k:Nat}{h:ag}{a:AV}{ps:List PB}(n:rz k h a ps):∃ x:Sl (Sl Int),x.l.map Sl.l=ps.map (·.2)∧Fz old h a (aq eE 1 x):=by
 obtain ⟨o,hc⟩:=n
 cases o with
 |nil=>exact ⟨none,rfl,.scalar _ rfl⟩
 |row b ps h1 h2 h3=>
  refine ⟨some (ps.map fun p=>some p.2),by simp [List.map_map,Function.comp_def],?_⟩
  have e1:ps.flatMap wK=ps.map fun p=>AV.slice p.1 0 p.2.length 1:=by
   induction ps with
   |nil=>rfl
   |cons p ps ih=>rw [List.flatMap_cons,List.map_cons];exact congrArg _ (by
     clear ih h3 hc
     induction ps with
     |nil=>rfl
     |cons q ps ih=>rw [List.flatMap_cons,List.map_cons,ih];rfl)
  have e2:(ps.map fun p=>(some p.2:Sl Int)).flatMap eE=ps.map fun p=>aq encI 1 (some p.2):=by
   clear h3 hc e1
   induction ps with
   |nil=>rfl
   |cons q ps ih=>rw [List.map_cons,List.flatMap_cons,List.map_cons,ih];rfl
  rw [e1] at h3
  have hf:Fz old h (.slice b 0 ps.length 1) (.islice (ps.map fun p=>aq encI 1 (some p.2)) 0 ps.length 1):=by
   refine .slice b 0 ps.length 1 _ _ h3 (by simp) fun i x y hx hy=>?_
   rw [List.getElem?_map] at hx hy
   obtain ⟨p,hp,rfl⟩:=Option.map_eq_some_iff.1 hx
   rw [hp] at hy;cases hy
   exact nD (hc p (List.mem_of_getElem? hp)).2.2.2
  have:aq eE 1 (some (ps.map fun p=>(some p.2:Sl Int))) = .islice (ps.map fun p=>aq encI 1 (some p.2)) 0 ps.length 1:=by
   simp only [aq,e2,List.length_map]
  rw [this];exact hf
theorem rz.push{k:Nat}{h:ag}{a:AV}{ps:List PB}(n:rz k h a ps)(hk:k≤h.next)(hroom:(ps.length+1)*24≤dm)(p:PB)(p1:k≤p.1)(p2:p.1<h.next)(p3:ep a≠some p.1)(p4:h.get p.1=some (.cells (p.2.map iv))) :
  ∃ a' h',cz 1 24 a (.slice h.next 0 1 1) (h.alloc (.cells (wK p)))=some (a',h')∧rz k h' a' (ps++[p])∧h.next≤h'.next∧(∀ c,c<h.next→ep a≠some c→h'.get c=h.get c)∧(∀ h0,bR h0 h→h0.next≤k→bR h0 h')∧∀ c,ep a'=some c→h.next≤c:=by
 obtain ⟨a',h',e1,o1,f1,n1,x1,b1⟩:=n.own.push A8 KI hk hroom p
 refine ⟨a',h',e1,⟨o1,fun q hq=>?_⟩,n1,f1,x1,b1⟩
 have hq':k≤q.1∧q.1<h.next∧ep a≠some q.1∧h.get q.1=some (.cells (q.2.map iv)):=by
  rcases List.mem_append.1 hq with hq|hq
  ·exact n.cell q hq
  ·rw [List.mem_singleton] at hq;subst hq;exact ⟨p1,p2,p3,p4⟩
 obtain ⟨q1,q2,q3,q4⟩:=hq'
 exact ⟨q1,by omega,fun hb=>by have:=b1 _ hb;omega,by rw [f1 _ q2 q3];exact q4⟩
theorem rz.at_{k:Nat}{h:ag}{a:AV}{ps:List PB}(n:rz k h a ps){i:Nat}{p:PB}(hp:ps[i]?=some p) :
  ∃ b,(∀ q:IntKind,cS 1 a (.int q (i:Int))=some (.ptr b (i*1)))∧b<h.next∧(∀ h',bR h h'→ai none (.ptr b (i*1)) h'=some (.slice p.1 0 p.2.length 1)):=by
 obtain ⟨b,b1,b2,b3,_,b5⟩:=n.own.get A8 hp
 refine ⟨b,b3,b2,fun h' hx=>?_⟩
 obtain ⟨b',_,_,c3,_,c5⟩:=(n.own.ext hx).get A8 hp
 obtain rfl:b=b':=by have:=b3 .i64;rw [c3 .i64] at this;cases this;rfl
 have:=c5 0 (by omega)
 rw [Nat.add_zero] at this
 rw [this];rfl
theorem KJ{h:ag}{b:Nat}{l:List Int}(hb:h.get b=some (.cells (l.map iv)))(hbn:b<h.next)(hl:l.length≤1000000)(x:Int) :
  ∃ b' h',cz 1 8 (.slice b 0 l.length 1) (.slice h.next 0 1 1) (h.alloc (.cells [.int .i64 x]))=some (.slice b' 0 (l++[x]).length 1,h')∧h'.get b'=some (.cells ((l++[x]).map iv))∧(∀ c,c<h.next→c≠b→h'.get c=h.get c)∧h.next≤b'∧b'<h'.next:=by
 have hm:dm=140737488355328:=rfl
 have g:(h.alloc (.cells [.int .i64 x])).get h.next=some (.cells [.int .i64 x]):=aI _ _
 have g2:(h.alloc (.cells [.int .i64 x])).get b=some (.cells (l.map iv)):=by rw [ag.aV,if_neg (by omega)];exact hb
 refine ⟨h.next+1,((h.alloc (.cells [.int .i64 x])).set b .dead).alloc (.cells ((l++[x]).map iv)),?_,?_,fun c hc hcb=>?_,by omega,?_⟩
 ·have hf:iy 1 1 (.slice h.next 0 1 1) (h.alloc (.cells [.int .i64 x]))=some [.int .i64 x]:=by simp [iy,g]
  simp only [cz,kI,hf,if_true,g2]
  rw [if_neg (by decide),if_pos (by simp [br,AV.one];omega)]
  simp only [ag.next_set,ag.next_alloc,List.drop_zero,Nat.mul_one]
  congr 2
  ·simp
  ·congr 2
   rw [List.take_of_length_le (by simp),List.map_append];rfl
 ·have:=aI ((h.alloc (.cells [.int .i64 x])).set b .dead) (.cells ((l++[x]).map iv))
  rwa [ag.next_set,ag.next_alloc] at this
 ·rw [ag.aV,ag.next_set,ag.next_alloc,if_neg (by omega),ag.aO,if_neg hcb,ag.aV,if_neg (by omega)]
 ·rw [ag.next_alloc,ag.next_set,ag.next_alloc];omega
end
end Go.AM
namespace Go.AM
open Go Go.Proofs
noncomputable section
theorem D8{n:Nat}(h1:1≤n){i k:Nat}(h:i≤k):n ^ i≤n ^ k:=Nat.pow_le_pow_right h1 h
theorem rA(n:Nat):∀ (a b:List Int) (r:Nat),qv n (a++b) r=qv n b (qv n a r)
 |[],_,_=>rfl
 |x :: a,b,r=>rA n a b _
theorem Ii{n:Nat}:∀ (l:List Int) (r i:Nat),gQ n l=true→r<n ^ i→qv n l r<n ^ (i+l.length)
 |[],r,i,_,h=>h
 |x :: l,r,i,hb,h=>by
  simp only [gQ,List.all_cons,Bool.and_eq_true,Bool.not_eq_true',decide_eq_false_iff_not] at hb
  have:r*n+x.toNat<n ^ (i+1):=by
   have h1:(r+1)*n≤n ^ i*n:=Nat.mul_le_mul_right n h
   rw [Nat.succ_mul] at h1
   rw [Nat.pow_succ]
   omega
  have:=Ii l (r*n+x.toNat) (i+1) (by rw [gQ,List.all_eq_true];simpa using hb.2) this
  rw [List.length_cons,show i+(l.length+1)=i+1+l.length by omega]
  exact this
theorem lC{n:Nat}{l:List Int}(hb:gQ n l=true):gY n l<n ^ l.length:=by
 have:=Ii l 0 0 hb (by simp)
 rw [Nat.zero_add] at this
 exact this
theorem KK{n:Nat}{l:List Int}{i:Nat}{v:Int}(hv:l[i]?=some v):gY n (l.take (i+1))=gY n (l.take i)*n+v.toNat:=by
 rw [gY,List.take_add_one,hv,rA];rfl
theorem Nz{n:Int}{l:List Int}(hb:gQ n l=true)(i:Nat):gQ n (l.take i)=true:=by
 unfold gQ at hb ⊢
 rw [List.all_eq_true] at hb ⊢
 exact fun x hx=>hb x (List.mem_of_mem_take hx)
theorem KL{n:Int}{l:List Int}(hb:gQ n l=true){i:Nat}{v:Int}(hv:l[i]?=some v):0≤v∧v<n:=by
 unfold gQ at hb
 rw [List.all_eq_true] at hb
 have:=hb v (List.mem_of_getElem? hv)
 simp at this;omega
theorem lU{n:Nat}{l:List Int}(hb:gQ n l=true)(h1:1≤n)(hc:n ^ l.length≤4096){i:Nat}{v:Int}(hv:l[i]?=some v) :
  aJ .mul (.int .i64 ((gY n (l.take i):Nat):Int)) (.int .i64 (n:Int))=some (.int .i64 ((gY n (l.take i)*n:Nat):Int)) ∧
  aJ .add (.int .i64 ((gY n (l.take i)*n:Nat):Int)) (.int .i64 v)=some (.int .i64 ((gY n (l.take (i+1)):Nat):Int)):=by
 have hi:i<l.length:=(List.getElem?_eq_some_iff.1 hv).1
 have hlt:gY n (l.take (i+1))<n ^ (l.take (i+1)).length:=lC (Nz hb _)
 have hp:n ^ (l.take (i+1)).length≤4096:=Nat.le_trans (D8 h1 (by rw [List.length_take];omega)) hc
 obtain ⟨v0,v1⟩:=KL hb hv
 have he:gY n (l.take (i+1))=gY n (l.take i)*n+v.toNat:=KK hv
 have hm:((gY n (l.take i):Nat):Int)*(n:Int)=((gY n (l.take i)*n:Nat):Int):=by rw [Int.natCast_mul]
 have hs:((gY n (l.take i)*n:Nat):Int)+v=((gY n (l.take (i+1)):Nat):Int):=by omega
 exact ⟨by rw [r8 (by rw [hm];omega) (by rw [hm];omega),hm],by rw [gB (by rw [hs];omega) (by rw [hs];omega),hs]⟩
def gj:List Int→List Int→Bool
 |a :: l,b :: m=>if a=b then gj l m else decide (a<b)
 |_,_=>false
structure Rel where
 name:bC
 arity:Int
 tuples:Sl (Sl Int)
structure dw where
 size:Int
 rels:Sl Rel
def Ce(p:Nat→Bool)(n:Nat):Bool:=(List.range n).all p
def ke(n k:Nat)(l:List (Sl Int))(i:Nat):Bool:=match l[i]? with
 |none=>true
 |some t=>decide (t.l.length=k)&&(gQ n t.l&&(match i with
  |0=>true
  |j+1=>match l[j]? with
   |none=>true
   |some p=>gj p.l t.l))
def sZ(n k:Nat)(l:List (Sl Int)):Bool:=Ce (ke n k l) l.length
def kM(n:Nat)(r:Rel):Bool:=ec r.name&&(decide (0≤r.arity)&&(decide (r.arity≤12)&&(decide (n ^ r.arity.toNat≤4096)&&sZ n r.arity.toNat r.tuples.l)))
def m6(s:dw)(i:Nat):Bool:=match s.rels.l[i]? with
 |none=>true
 |some r=>kM s.size.toNat r&&!((s.rels.l.take i).any fun q=>q.name==r.name)
def di(s:dw):Bool:=decide (1≤s.size)&&(decide (s.size≤64)&&(decide (s.rels.l.length≤8)&&Ce (m6 s) s.rels.l.length))
theorem FA{b:Nat}{h:ag}{es:List Entry}{ck:Nat}{m:lq}(hb:h.get b=some (.map es ck))(hm:rq es m)(z:AV)(k:bC) :
  ei .string z false (.map b) (.str k) h=some ((m.find k).getD z):=by
 obtain ⟨r,hr,hm'⟩:=rq.iQ (k:=k) 0 hm
 simp only [ei,kq,hb,nT,nS,if_true,hr]
 cases r with
 |none=>simp at hm';simp [hm']
 |some jv=>
  obtain ⟨n,_,b,_⟩:=hm'
  obtain ⟨j,v⟩:=jv
  simp [b]
def bv(b:Bool):AV:=.bool b
theorem zq{b i:Nat}{h:ag}{d:List Bool}{v:Bool}(hb:h.get b=some (.cells (d.map bv)))(hv:d[i]?=some v):ai none (.ptr b i) h=some (.bool v):=by
 rw [an hb,nZ,List.getElem?_map,hv];rfl
theorem rB{b i:Nat}{h:ag}{d:List Bool}{v:Bool}(hb:h.get b=some (.cells (d.map bv)))(hi:i<d.length):bL 1 (.ptr b i) (.bool v) h=some (h.set b (.cells ((d.set i v).map bv))):=by
 rw [dV (n:=1) hb rfl rfl (by simp;omega),List.map_set];rfl
theorem OS(n:Nat):iz [.bool false] n=(List.replicate n false).map bv:=by
 induction n with
 |zero=>rfl
 |succ n ih=>rw [iz,ih];rfl
theorem zu{n:Nat}(hn:n≤1000000)(h:ag):fy 1 1 [.bool false] (.int .i64 (n:Int)) (.int .i64 (n:Int)) h=some (.slice h.next 0 n 1,h.alloc (.cells ((List.replicate n false).map bv))):=by
 have:((n:Int))≤140737488355328:=by omega
 simp [fy,vG,this,OS]
def iB(n:Nat):List (Sl Int)→List Bool→List Bool
 |[],d=>d
 |t :: ts,d=>iB n ts (d.set (gY n t.l) true)
theorem wL{n:Nat}{l:List (Sl Int)}{i:Nat}{t:Sl Int}(ht:l[i]?=some t)(d:List Bool):iB n (l.drop i) d=iB n (l.drop (i+1)) (d.set (gY n t.l) true):=by
 have h1:=(List.getElem?_eq_some_iff.1 ht).1
 rw [List.drop_eq_getElem_cons h1]
 rw [List.getElem?_eq_getElem h1] at ht
 cases ht;rfl
theorem A9(n:Nat):∀ (l:List (Sl Int)) (d:List Bool),(iB n l d).length=d.length
 |[],_=>rfl
 |t :: l,d=>by rw [iB,A9 n l];simp
def bitsOf(n k:Nat)(ts:List (Sl Int)):List Bool:=iB n ts (List.replicate (n ^ k) false)
theorem jV(n k:Nat)(ts:List (Sl Int)):(bitsOf n k ts).length=n ^ k:=by rw [bitsOf,A9];simp
structure ef (D:bC→Option (Nat×List Bool)) (h:ag) (B lo:Nat):Prop where
 ex:∃ es ck m,h.get B=some (.map es ck)∧rq es m∧∀ nm,m.find nm=(D nm).map fun p=>.slice p.1 0 p.2.length 1
 blk:∀ nm p,D nm=some p→lo≤p.1∧p.1<h.next∧p.1≠B∧h.get p.1=some (.cells (p.2.map bv))
 inj:∀ nm nm' p p',D nm=some p→D nm'=some p'→p.1=p'.1→nm=nm'
 lt:B<h.next
theorem ef.ext{D:bC→Option (Nat×List Bool)}{h h':ag}{B lo:Nat}(b:ef D h B lo)(hx:bR h h'):ef D h' B lo:=by
 obtain ⟨es,ck,m,h1,h2,h3⟩:=b.ex
 refine ⟨⟨es,ck,m,by rw [hx.get _ b.lt];exact h1,h2,h3⟩,fun nm p hp=>?_,b.inj,Nat.lt_of_lt_of_le b.lt hx.next⟩
 obtain ⟨q1,q2,q3,q4⟩:=b.blk nm p hp
 exact ⟨q1,Nat.lt_of_lt_of_le q2 hx.next,q3,by rw [hx.get _ q2];exact q4⟩
def cQ(r:Rel):bC×Int×List (List Int):=(r.name,r.arity,r.tuples.l.map Sl.l)
abbrev I5:=bC×Int×List (List Int)
def NA(n:Nat)(ds:List I5)(nm:bC)(r:Nat):Prop:=∃ d ∈ ds,d.1=nm∧∃ u ∈ d.2.2,gY n u=r
def Ba(d:I5):bC×Int:=(d.1,d.2.1)
def jL(D:bC→Option (Nat×List Bool))(nm:bC)(b:Nat)(d:List Bool):bC→Option (Nat×List Bool):=fun j=>if j=nm then some (b,d) else D j
theorem ef.set{D:bC→Option (Nat×List Bool)}{h:ag}{B lo:Nat}(H:ef D h B lo){nm:bC}{p:Nat×List Bool}(hp:D nm=some p){d:List Bool}(hd:d.length=p.2.length):ef (jL D nm p.1 d) (h.set p.1 (.cells (d.map bv))) B lo:=by
 obtain ⟨es,ck,m,h1,h2,h3⟩:=H.ex
 obtain ⟨k1,k2,k3,k4⟩:=H.blk nm p hp
 refine ⟨⟨es,ck,m,by rw [ag.aO,if_neg (Ne.symm k3)];exact h1,h2,fun j=>?_⟩,fun j q hq=>?_,fun j j' q q' hq hq' hqq=>?_,by rw [ag.next_set];exact H.lt⟩
 ·rw [h3];unfold jL
  by_cases e:j=nm
  ·subst e;rw [if_pos rfl,hp,Option.map_some,Option.map_some,hd]
  ·rw [if_neg e]
 ·unfold jL at hq
  by_cases e:j=nm
  ·rw [if_pos e] at hq;cases hq
   exact ⟨k1,by rw [ag.next_set];exact k2,k3,by rw [ag.aO,if_pos rfl]⟩
  ·rw [if_neg e] at hq
   obtain ⟨q1,q2,q3,q4⟩:=H.blk j q hq
   exact ⟨q1,by rw [ag.next_set];exact q2,q3,by rw [ag.aO,if_neg (fun e'=>e (H.inj j nm q p hq hp e'))];exact q4⟩
 ·unfold jL at hq hq'
  by_cases e:j=nm
  ·by_cases e':j'=nm
   ·rw [e,e']
   ·rw [if_pos e] at hq;rw [if_neg e'] at hq';cases hq
    exact absurd (H.inj nm j' p q' hp hq' hqq).symm e'
  ·by_cases e':j'=nm
   ·rw [if_neg e] at hq;rw [if_pos e'] at hq';cases hq'
    exact absurd (H.inj j nm q p hq hp hqq) e
   ·rw [if_neg e] at hq;rw [if_neg e'] at hq';exact H.inj j j' q q' hq hq' hqq
end
end Go.AM
namespace Go.AM
open Go Go.Proofs
noncomputable section
theorem G7{S n:Nat}{R:AV}{h:ag}(hS:h.get S=some (.cells [.int .i64 (n:Int),R]))(h1:1≤n){x:Sl Int}(hx:x.l.length≤12)(hc:n ^ x.l.length≤4096)(hb:gQ n x.l=true){K:Out→ag→Bool}
  (hK:K (.ret (.int .i64 ((gY n x.l:Nat):Int))) h=true):Sem Tryz.prog 69 [.ptr S 0,aq encI 1 x] h K:=by
 have hbig:x.l.length≤cm:=by unfold cm;omega
 refine F.lR ?_
 rw [F.mh]
 simp only [aQ,Nat.reduceAdd,Nat.reduceEqDiff,reduceIte]
 refine aE 0 x.l.length (Nat.zero_le _) (fun i e h'=>h'=h∧e 0 = .ptr S 0∧e 5 = .int .i64 ((gY n (x.l.take i):Nat):Int)∧e 8=aq encI 1 x∧e 9 = .int .i64 (x.l.length:Int)∧e 10 = .int .i64 (i:Int)) ⟨rfl,rfl,rfl,rfl,rfl,rfl⟩ ?_ ?_
 ·rintro i e h' _ hi ⟨rfl,e0,e5,e8,e9,e10⟩ K' hn hx' hr hp
  have hv:x.l[i]?=some x.l[i]:=List.getElem?_eq_getElem hi
  rw [F.cT.aN]
  simp only [e0,e5,e8,e9,e10,aQ,Nat.reduceAdd,Nat.reduceEqDiff,reduceIte,bS,an hS,bf hi,aS x hi,eT hv,(lU hb h1 hc hv).1,(lU hb h1 hc hv).2,aK hi hbig]
  exact hn _ _ ⟨rfl,e0,rfl,e8,e9,rfl⟩
 ·rintro e h' ⟨rfl,e0,e5,e8,e9,e10⟩ K' hx'
  rw [F.cT.aN]
  simp only [e9,e10,aQ,Nat.reduceAdd,Nat.reduceEqDiff,reduceIte,aT]
  rw [hx',F.cT.aG]
  simp only [e5,bt,Nat.reduceEqDiff,reduceIte]
  rw [List.take_of_length_le (Nat.le_refl _)]
  exact hK
def aR(vs:List Int)(ps:List Nat):List Int:=ps.map fun p=>vs.getD p 0
theorem Ij{V n:Nat}{vs:List Int}{h:ag}(hV:h.get V=some (.cells (vs.map iv)))(hVn:V<h.next)(hn:n=vs.length){ps:List Nat}{x:Sl Int}(hxp:x.l=ps.map fun (p:Nat)=>(p:Int))(hps:∀ p ∈ ps,p<vs.length)(hpl:ps.length≤1000000){K:Out→ag→Bool}
  (hK:∀ h',h'.get h.next=some (.cells ((aR vs ps).map iv))→bR h h'→h.next<h'.next→K (.ret (.slice h.next 0 ps.length 1)) h'=true):Sem Tryz.prog 124 [.slice V 0 n 1,aq encI 1 x] h K:=by
 subst hn
 have hpb:ps.length≤cm:=by unfold cm;omega
 have hl:x.l.length=ps.length:=by rw [hxp];simp
 refine F.qT ?_
 rw [F.tu]
 simp only [aQ,Nat.reduceAdd,Nat.reduceEqDiff,reduceIte,hl,sr hpl]
 have g0:=aI h (.cells ((List.replicate ps.length (0:Int)).map iv))
 have x0:=bR.alloc h (.cells ((List.replicate ps.length (0:Int)).map iv))
 have n0:(h.alloc (.cells ((List.replicate ps.length (0:Int)).map iv))).next=h.next+1:=ag.next_alloc _ _
 generalize h.alloc (.cells ((List.replicate ps.length (0:Int)).map iv))=H at g0 x0 n0 ⊢
 refine aE 0 ps.length (Nat.zero_le _) (fun i e h'=>∃ d:List Int,d.length=ps.length∧d.take i=(aR vs ps).take i∧h'.get h.next=some (.cells (d.map iv))∧bR h h'∧h.next<h'.next ∧
  e 0 = .slice V 0 vs.length 1∧e 5 = .slice h.next 0 ps.length 1∧e 11=aq encI 1 x∧e 12 = .int .i64 (ps.length:Int)∧e 13 = .int .i64 (i:Int)) ⟨List.replicate ps.length 0,by simp,rfl,g0,x0,by omega,rfl,rfl,rfl,rfl,rfl⟩ ?_ ?_
 ·rintro i e h' _ hi ⟨d,dl,dt,q0,qx,qn,e0,e5,e11,e12,e13⟩ K' hn hx hr hp
  have hv:ps[i]?=some ps[i]:=List.getElem?_eq_getElem hi
  generalize ps[i]=p at hv
  have hv':x.l[i]?=some (p:Int):=by rw [hxp,List.getElem?_map,hv];rfl
  have hpv:=hps p (List.mem_of_getElem? hv)
  have hw:vs[p]?=some (vs.getD p 0):=by rw [List.getD_eq_getElem?_getD,List.getElem?_eq_getElem hpv];rfl
  have qV:h'.get V=some (.cells (vs.map iv)):=by rw [qx.get V hVn];exact hV
  have i1:=aS (enc:=encI) (sz:=1) (k:=.i64) x (i:=i) (by rw [hl];exact hi)
  have l1:=fun h=>eT (x:=x) hv' (h:=h)
  rw [F.fJ.aN]
  simp only [e0,e5,e11,e12,e13,aQ,Nat.reduceAdd,Nat.reduceEqDiff,reduceIte,bf hi,i1,l1,jy hpv,kC qV hw,jy hi,mV q0 (show i<d.length by omega),aK hi hpb]
  refine hn _ _ ⟨d.set i (vs.getD p 0),by simp [dl],?_,by rw [ag.aO,if_pos rfl],qx.set (Nat.le_refl _) _,by rw [ag.next_set];exact qn,e0,e5,e11,e12,rfl⟩
  have hpk:(aR vs ps)[i]?=some (vs.getD p 0):=by unfold aR;rw [List.getElem?_map,hv];rfl
  rw [List.take_add_one,List.take_add_one,hpk,List.take_set_of_le (Nat.le_refl _),dt,List.getElem?_set,if_pos rfl,if_pos (by omega)]
 ·rintro e h' ⟨d,dl,dt,q0,qx,qn,e0,e5,e11,e12,e13⟩ K' hx
  rw [F.fJ.aN]
  simp only [e12,e13,aQ,Nat.reduceAdd,Nat.reduceEqDiff,reduceIte,aT]
  rw [hx,F.fJ.aG]
  simp only [e5,bt,Nat.reduceEqDiff,reduceIte]
  have:d=aR vs ps:=by
   have h1:d.take ps.length=d:=List.take_of_length_le (by omega)
   have h2:(aR vs ps).take ps.length=aR vs ps:=List.take_of_length_le (by simp [aR])
   rw [← h1,dt,h2]
  rw [this] at q0
  exact hK h' q0 qx qn
end
end Go.AM
namespace Go.AM
open Go Go.Proofs
noncomputable section
theorem xS{S n T:Nat}{R:AV}{h:ag}(hS:h.get S=some (.cells [.int .i64 (n:Int),R]))(h1:1≤n){t:List Int}(hT:h.get T=some (.cells (t.map iv)))(hx:t.length≤12)(hc:n ^ t.length≤4096)(hb:gQ n t=true){K:Out→ag→Bool}
  (hK:K (.ret (.int .i64 ((gY n t:Nat):Int))) h=true):Sem Tryz.prog 69 [.ptr S 0,.slice T 0 t.length 1] h K:=by
 have hbig:t.length≤cm:=by unfold cm;omega
 have hl:∀ h,bQ .slice (.slice T 0 t.length 1) h=some (.int .i64 (t.length:Int)):=fun _=>rfl
 refine F.lR ?_
 rw [F.mh]
 simp only [aQ,Nat.reduceAdd,Nat.reduceEqDiff,reduceIte,hl]
 refine aE 0 t.length (Nat.zero_le _) (fun i e h'=>h'=h∧e 0 = .ptr S 0∧e 5 = .int .i64 ((gY n (t.take i):Nat):Int)∧e 8 = .slice T 0 t.length 1∧e 9 = .int .i64 (t.length:Int)∧e 10 = .int .i64 (i:Int)) ⟨rfl,rfl,rfl,rfl,rfl,rfl⟩ ?_ ?_
 ·rintro i e h' _ hi ⟨rfl,e0,e5,e8,e9,e10⟩ K' hn hx' hr hp
  have hv:t[i]?=some t[i]:=List.getElem?_eq_getElem hi
  rw [F.cT.aN]
  simp only [e0,e5,e8,e9,e10,aQ,Nat.reduceAdd,Nat.reduceEqDiff,reduceIte,bS,an hS,bf hi,jy hi,kC hT hv,(lU hb h1 hc hv).1,(lU hb h1 hc hv).2,aK hi hbig]
  exact hn _ _ ⟨rfl,e0,rfl,e8,e9,rfl⟩
 ·rintro e h' ⟨rfl,e0,e5,e8,e9,e10⟩ K' hx'
  rw [F.cT.aN]
  simp only [e9,e10,aQ,Nat.reduceAdd,Nat.reduceEqDiff,reduceIte,aT]
  rw [hx',F.cT.aG]
  simp only [e5,bt,Nat.reduceEqDiff,reduceIte]
  rw [List.take_of_length_le (Nat.le_refl _)]
  exact hK
def dB(D:bC→Option (Nat×List Bool))(nm:bC)(r:Nat):Bool:=match D nm with|some p=>p.2.getD r false|none=>false
theorem ef.look{D:bC→Option (Nat×List Bool)}{h:ag}{B lo:Nat}(b:ef D h B lo){nm:bC}{p:Nat×List Bool}(hp:D nm=some p):ei .string .nils false (.map B) (.str nm) h=some (.slice p.1 0 p.2.length 1):=by
 obtain ⟨es,ck,m,h1,h2,h3⟩:=b.ex
 rw [FA h1 h2,h3,hp];rfl
def cX(n:Nat)(look:bC→Nat→Bool)(c:dO)(t:List Int):Bool:=
 (if c.kind=0 then look c.name (gY n t) else if c.kind=1 then decide (t.getD 0 0=t.getD 1 0) else decide (t.getD 0 0<t.getD 1 0)) != c.neg
theorem xT{S B n lo T:Nat}{D:bC→Option (Nat×List Bool)}{h:ag}(hS:h.get S=some (.cells [.int .i64 (n:Int),.map B]))(hD:ef D h B lo)(n1:1≤n){c:dO}{t:List Int}(hT:h.get T=some (.cells (t.map iv)))(hTn:T<h.next)(hSn:S<h.next)
  (ht:t.length≤12) (hb:gQ n t=true) (hc:c.kind=0→n ^ t.length≤4096∧∃ p,D c.name=some p∧p.2.length=n ^ t.length) (hk:c.kind=1∨c.kind=2→t.length=2) (hkk:c.kind=0∨c.kind=1∨c.kind=2) {K:Out→ag→Bool}
  (hK:∀ h',bR h h'→K (.ret (.bool (cX n (dB D) c t))) h'=true):Sem Tryz.prog 129 [.ptr S 0,.agg [.int .i64 c.kind,.bool c.neg,.str c.name,aq encS 1 c.args],.slice T 0 t.length 1] h K:=by
 refine F.qj ?_
 rw [F.qW]
 have hbx:ew (.agg [.int .i64 c.kind,.bool c.neg,.str c.name,aq encS 1 c.args])=some (bO c):=cA (gm c)
 have g0:(ag.alloc h (.cells (bO c))).get h.next=some (.cells (bO c)):=aI _ _
 have gx:bR h (ag.alloc h (.cells (bO c))):=bR.alloc _ _
 simp only [hbx,bindO_some]
 generalize (ag.alloc h (.cells (bO c)))=H at g0 gx ⊢
 have gS:H.get S=some (.cells [.int .i64 (n:Int),.map B]):=by rw [gx.get S hSn];exact hS
 have gT:H.get T=some (.cells (t.map iv)):=by rw [gx.get T hTn];exact hT
 have gD:=hD.ext gx
 simp only [aQ,Nat.reduceAdd,Nat.reduceEqDiff,reduceIte,an g0,bO,ct]
 by_cases k0:c.kind=0
 ·obtain ⟨hpow,p,hp,hpl⟩:=hc k0
  have hrk:gY n t<p.2.length:=by rw [hpl];exact lC hb
  have hbit:p.2[gY n t]?=some (p.2.getD (gY n t) false):=by rw [List.getD_eq_getElem?_getD,List.getElem?_eq_getElem hrk];rfl
  obtain ⟨_,_,_,gp⟩:=gD.blk c.name p hp
  simp only [decide_eq_true k0,aC,aQ,Nat.reduceAdd,Nat.reduceEqDiff,reduceIte,bS,an gS,an g0,bO,gD.look hp]
  refine ak (xS gS n1 gT ht hpow hb ?_)
  simp only [aQ,Nat.reduceAdd,Nat.reduceEqDiff,reduceIte,an gS,an g0,bO,gD.look hp,AV.beq_refl,Bool.and_self,Bool.and_true,if_true,jy hrk,zq gp hbit,zm]
  have hv:cX n (dB D) c t = !(p.2.getD (gY n t) false==c.neg):=by unfold cX dB;rw [if_pos k0,hp];rfl
  rw [← hv]
  exact hK H gx
 ·have h2:t.length=2:=hk (hkk.resolve_left k0)
  have v0:t[0]?=some (t.getD 0 0):=by rw [List.getD_eq_getElem?_getD,List.getElem?_eq_getElem (by omega:0<t.length)];rfl
  have v1:t[1]?=some (t.getD 1 0):=by rw [List.getD_eq_getElem?_getD,List.getElem?_eq_getElem (by omega:1<t.length)];rfl
  have i0:cS 1 (.slice T 0 t.length 1) (.int .i64 0)=some (.ptr T 0):=jy (i:=0) (by omega)
  have i1:cS 1 (.slice T 0 t.length 1) (.int .i64 1)=some (.ptr T 1):=jy (i:=1) (by omega)
  simp only [decide_eq_false k0,aD]
  by_cases k1:c.kind=1
  ·simp only [decide_eq_true k1,aC,i0,i1,kC gT v0,kC gT v1,aQ,Nat.reduceAdd,Nat.reduceEqDiff,reduceIte,an g0,bO,ct,zm]
   have hv:cX n (dB D) c t = !(decide (t.getD 0 0=t.getD 1 0)==c.neg):=by unfold cX;rw [if_neg k0,if_pos k1];rfl
   rw [← hv]
   exact hK H gx
  ·have k2:c.kind=2:=(hkk.resolve_left k0).resolve_left k1
   simp only [decide_eq_false k1,aD,decide_eq_true k2,aC,i0,i1,kC gT v0,kC gT v1,aQ,Nat.reduceAdd,Nat.reduceEqDiff,reduceIte,an g0,bO,zm]
   have hv:cX n (dB D) c t = !(decide (t.getD 0 0<t.getD 1 0)==c.neg):=by unfold cX;rw [if_neg k0,if_neg k1];rfl
   rw [← hv]
   exact hK H gx
end
end Go.AM
namespace Go.AM
open Go Go.Proofs
noncomputable section
theorem I6{x:Sl bC}{s:bC}(hx:x.l.length≤cm)(hs:s ∈ x.l){h:ag}{K:Out→ag→Bool}(hK:K (.ret (.int .i64 (x.l.idxOf s:Int))) h=true):Sem Tryz.prog 157 [aq encS 1 x,.str s] h K:=by
 refine F.gN ?_
 rw [F.gX]
 simp only [aQ,Nat.reduceAdd,Nat.reduceEqDiff,reduceIte]
 refine aE 0 x.l.length (Nat.zero_le _) (fun i e h'=>h'=h∧e 0=aq encS 1 x∧e 1 = .str s∧e 7 = .int .i64 (x.l.length:Int)∧e 8 = .int .i64 (i:Int)∧i≤x.l.idxOf s) ⟨rfl,rfl,rfl,rfl,rfl,Nat.zero_le _⟩ ?_ ?_
 ·rintro i e h' _ hi ⟨rfl,e0,e1,e7,e8,ht⟩ K' hn hx' hr hp'
  have hv:x.l[i]?=some x.l[i]:=List.getElem?_eq_getElem hi
  have hlt:x.l.idxOf s<x.l.length:=List.idxOf_lt_length_of_mem hs
  rw [F.bz.aN]
  simp only [e0,e1,e7,e8,aQ,Nat.reduceAdd,Nat.reduceEqDiff,reduceIte,bf hi,aS x hi,iq hv,nC]
  by_cases hq:s=x.l[i]
  ·simp only [decide_eq_true hq,aC]
   rw [hr,F.bz.aZ]
   have:x.l.idxOf s=i:=by
    refine Nat.le_antisymm ?_ ht
    refine Nat.le_of_not_lt fun h=>?_
    have h2:=List.not_of_lt_findIdx (p:=fun a=>a==s) (xs:=x.l) (i:=i) h
    simp [← hq] at h2
   rw [this] at hK;exact hK
  ·simp only [decide_eq_false hq,aD,aK hi hx,bindO_some]
   refine hn _ _ ⟨rfl,e0,e1,e7,rfl,?_⟩
   refine Nat.lt_of_le_of_ne ht fun h=>?_
   have h3:x.l[x.l.idxOf s]=s:=List.getElem_idxOf hlt
   exact hq (by rw [← h3];congr 1;exact h.symm)
 ·rintro e h' ⟨rfl,e0,e1,e7,e8,ht⟩ K' hx'
  have hlt:x.l.idxOf s<x.l.length:=List.idxOf_lt_length_of_mem hs
  omega
def placesOf(vars xs:List bC):List Nat:=xs.map fun s=>vars.idxOf s
theorem FB{V:Nat}{h:ag}{vars xs:Sl bC}(hV:h.get V=some (.cells [aq encS 1 vars]))(hVn:V<h.next)(hall:∀ s ∈ xs.l,s ∈ vars.l)(hx:xs.l.length≤1000000)(hv:vars.l.length≤cm){K:Out→ag→Bool}
  (hK:∀ a h',Own encI 1 h.next h' a ((placesOf vars.l xs.l).map fun (p:Nat)=>(p:Int))→bR h h'→K (.ret a) h'=true):Sem Tryz.prog 156 [aq encS 1 xs,.ptr V 0] h K:=by
 have hxb:xs.l.length≤cm:=by unfold cm;omega
 refine F.tZ ?_
 rw [F.u6]
 simp only [aQ,Nat.reduceAdd,Nat.reduceEqDiff,reduceIte]
 refine aE 0 xs.l.length (Nat.zero_le _) (fun i e h'=>∃ a,Own encI 1 h.next h' a ((placesOf vars.l (xs.l.take i)).map fun (p:Nat)=>(p:Int))∧bR h h'∧e 1 = .ptr V 0∧e 4=a∧e 7=aq encS 1 xs∧e 8 = .int .i64 (xs.l.length:Int)∧e 9 = .int .i64 (i:Int)) ⟨.nils,.nil,bR.refl _,rfl,rfl,rfl,rfl,rfl⟩ ?_ ?_
 ·rintro i e h' _ hi ⟨a,o,qx,e1,e4,e7,e8,e9⟩ K' hn hx' hr hp
  have hs:xs.l[i]?=some xs.l[i]:=List.getElem?_eq_getElem hi
  generalize xs.l[i]=s at hs
  have qV:h'.get V=some (.cells [aq encS 1 vars]):=by rw [qx.get V hVn];exact hV
  rw [F.eS.aN]
  simp only [e1,e4,e7,e8,e9,aQ,Nat.reduceAdd,Nat.reduceEqDiff,reduceIte,bf hi,aS xs hi,iq hs,an qV]
  refine ak (I6 hv (hall s (List.mem_of_getElem? hs)) ?_)
  obtain ⟨a2,h2,p1,p2,p3,p4,p5,p6⟩:=o.push od Fx qx.next (bytes:=8) (by have:=List.length_take_le i xs.l;simp only [placesOf,List.length_map];unfold dm;omega) (vars.l.idxOf s:Int)
  simp only [aQ,Nat.reduceAdd,Nat.reduceEqDiff,reduceIte,e4,KG,p1,e9,aK hi hxb]
  refine hn _ _ ⟨a2,?_,p5 h qx (Nat.le_refl _),e1,rfl,e7,e8,rfl⟩
  have:placesOf vars.l (xs.l.take (i+1))=placesOf vars.l (xs.l.take i)++[vars.l.idxOf s]:=by unfold placesOf;rw [List.take_add_one,hs];simp
  rw [this];simpa using p2
 ·rintro e h' ⟨a,o,qx,e1,e4,e7,e8,e9⟩ K' hx'
  rw [F.eS.aN]
  simp only [e8,e9,aQ,Nat.reduceAdd,Nat.reduceEqDiff,reduceIte,aT]
  rw [hx',F.eS.aG]
  rw [List.take_of_length_le (Nat.le_refl _)] at o
  simp only [e4,bt,Nat.reduceEqDiff,reduceIte]
  exact hK a h' o qx
end
end Go.AM
namespace Go.AM
open Go Go.Proofs
noncomputable section
abbrev RW:=Option (Nat×List Int)
def RW.av:RW→AV
 |none=>.nils
 |some p=>.slice p.1 0 p.2.length 1
def RW.l:RW→List Int
 |none=>[]
 |some p=>p.2
def vq(w:RW):List AV:=[w.av]
theorem FC(w:RW):(vq w).length=1:=rfl
theorem KM(w:RW):br (vq w)=true:=by cases w<;>rfl
theorem Sg(w:RW):fR [.nils] [(0,1)] [w.av]=some (vq w):=by cases w<;>rfl
theorem KN{k:Nat}{h:ag}{a:AV}{l:List Int}(o:Own encI 1 k h a l):∃ w:RW,a=w.av∧w.l=l∧∀ p,w=some p→k≤p.1∧p.1<h.next∧h.get p.1=some (.cells (p.2.map iv)):=by
 cases o with
 |nil=>exact ⟨none,rfl,rfl,fun p hp=>by cases hp⟩
 |row b l h1 h2 h3=>exact ⟨some (b,l),rfl,rfl,fun p hp=>by cases hp;exact ⟨h1,h2,by rw [pG];exact h3⟩⟩
theorem row_one{α:Type}{enc:α→List AV}{sz:Nat}(he:∀ x,(enc x).length=sz){h:ag}{b:Nat}{v:α}(hb:h.get b=some (.cells (enc v))):Row enc sz h (.slice b 0 1 sz) [v]:=by
 refine ⟨rfl,?_⟩
 have hl:(enc v).length=sz:=he v
 simp only [iy,hb,if_true,List.length_singleton,Nat.one_mul,Nat.zero_add,hl,Nat.le_refl,List.drop_zero]
 rw [← hl,List.take_length];simp
structure Ev (k:Nat) (h:ag) (cW lW:AV) (ws:List RW) (ls:List Int) (held:List RW):Prop where
 oc:Own vq 1 k h cW ws
 ol:Own encI 1 k h lW ls
 ok:∀ w ∈ held,∀ p,w=some p→k≤p.1∧p.1<h.next∧h.get p.1=some (.cells (p.2.map iv))∧ep cW≠some p.1∧ep lW≠some p.1
 sep:∀ b,ep cW=some b→ep lW≠some b
theorem Ev.ext{k:Nat}{h h':ag}{cW lW:AV}{ws:List RW}{ls:List Int}{held:List RW}(t:Ev k h cW lW ws ls held)(hx:bR h h'):Ev k h' cW lW ws ls held:=
 ⟨t.oc.ext hx,t.ol.ext hx,fun w hw p hp=>by
  obtain ⟨q1,q2,q3,q4⟩:=t.ok w hw p hp
  exact ⟨q1,Nat.lt_of_lt_of_le q2 hx.next,by rw [hx.get _ q2];exact q3,q4⟩,t.sep⟩
theorem Ev.hold{k:Nat}{h:ag}{cW lW:AV}{ws:List RW}{ls:List Int}{held:List RW}(t:Ev k h cW lW ws ls held){w:RW}{j:Nat}(hj:∀ p,w=some p→j≤p.1∧k≤p.1∧p.1<h.next∧h.get p.1=some (.cells (p.2.map iv)))
  (hc:∀ b,ep cW=some b→b<j) (hl:∀ b,ep lW=some b→b<j):Ev k h cW lW ws ls (held++[w]):=
 ⟨t.oc,t.ol,fun v hv p hp=>by
  rcases List.mem_append.1 hv with hv|hv
  ·exact t.ok v hv p hp
  ·rw [List.mem_singleton] at hv;subst hv
   obtain ⟨q1,q2,q3,q4⟩:=hj p hp
   exact ⟨q2,q3,q4,fun h=>by have:=hc _ h;omega,fun h=>by have:=hl _ h;omega⟩,t.sep⟩
theorem Ev.low{k:Nat}{h:ag}{cW lW:AV}{ws:List RW}{ls:List Int}{held:List RW}(t:Ev k h cW lW ws ls held){d:Nat}(hd:d<k)(x:jG):Ev k (h.set d x) cW lW ws ls held:=
 ⟨t.oc.pH hd x,t.ol.pH hd x,fun w hw p hp=>by
  obtain ⟨q1,q2,q3,q4⟩:=t.ok w hw p hp
  exact ⟨q1,by rw [ag.next_set];exact q2,by rw [ag.aO,if_neg (by omega)];exact q3,q4⟩,t.sep⟩
theorem Ev.push{k:Nat}{h:ag}{cW lW:AV}{ws:List RW}{ls:List Int}{held:List RW}(t:Ev k h cW lW ws ls held)(hk:k≤h.next)(hw:ws.length≤1000000)(hl:ls.length≤1000000)(w:RW)(x:Int) :
  ∃ c' l' h2 h3,cz 1 24 cW (.slice h.next 0 1 1) ((h.alloc (.cells (vq w))).alloc (.cells (encI x)))=some (c',h2)∧cz 1 8 lW (.slice (h.next+1) 0 1 1) h2=some (l',h3) ∧
   Ev k h3 c' l' (ws++[w]) (ls++[x]) held∧(∀ c,c<k→h2.get c=h.get c∧h3.get c=h.get c)∧h.next≤h3.next:=by
 have g0:((h.alloc (.cells (vq w))).alloc (.cells (encI x))).get h.next=some (.cells (vq w)):=by
  rw [ag.aV,ag.next_alloc,if_neg (by omega)];exact aI _ _
 have g1:((h.alloc (.cells (vq w))).alloc (.cells (encI x))).get (h.next+1)=some (.cells (encI x)):=aI _ _
 have gx:bR h ((h.alloc (.cells (vq w))).alloc (.cells (encI x))):=(bR.alloc _ _).trans (bR.alloc _ _)
 have gn:((h.alloc (.cells (vq w))).alloc (.cells (encI x))).next=h.next+2:=rfl
 generalize ((h.alloc (.cells (vq w))).alloc (.cells (encI x)))=H at g0 g1 gx gn ⊢
 have tH:=t.ext gx
 have cge:∀ b,ep cW=some b→k≤b∧b<h.next:=fun b hb=>⟨t.oc.ge hb,t.oc.lt hb⟩
 have lge:∀ b,ep lW=some b→k≤b∧b<h.next:=fun b hb=>⟨t.ol.ge hb,t.ol.lt hb⟩
 obtain ⟨c',h2,p1,p2,p3,p4,p5⟩:=tH.oc.append FC KM (row_one FC g0) (by omega) (bytes:=24) (by simp only [List.length_singleton];unfold dm;omega)
 have cnew:=p5 (by simp)
 have e1:h2.get (h.next+1)=some (.cells (encI x)):=by rw [p3 _ (by omega) (fun hb=>by have:=(cge _ hb).2;omega)];exact g1
 have ol2:Own encI 1 k h2 lW ls:=by
  have o:=tH.ol
  cases o with
  |nil=>exact .nil
  |row b l q1 q2 q3=>exact .row b _ q1 (by omega) (by rw [p3 b q2 (fun hb=>t.sep b hb rfl)];exact q3)
 obtain ⟨l',h3,r1,r2,r3,r4,r5⟩:=ol2.append od Fx (row_one od e1) (by omega) (bytes:=8) (by simp only [List.length_singleton];unfold dm;omega)
 have lnew:=r5 (by simp)
 have oc3:Own vq 1 k h3 c' (ws++[w]):=by
  generalize hL:ws++[w]=L at p2
  cases p2 with
  |nil=>exact .nil
  |row b l q1 q2 q3=>exact .row b _ q1 (by omega) (by rw [r3 b q2 (fun hb=>by have:=(lge _ hb).2;have:=cnew b rfl;omega)];exact q3)
 refine ⟨c',l',h2,h3,p1,r1,⟨oc3,r2,fun v hv p hp=>?_,fun b hb hb'=>?_⟩,fun c hc=>?_,by omega⟩
 ·obtain ⟨q1,q2,q3,q4,q5⟩:=t.ok v hv p hp
  have a1:h2.get p.1=some (.cells (p.2.map iv)):=by rw [p3 _ (by omega) q4,gx.get _ q2];exact q3
  refine ⟨q1,by omega,by rw [r3 _ (by omega) q5];exact a1,fun h=>by have:=cnew _ h;omega,fun h=>by have:=lnew _ h;omega⟩
 ·have:=p2.lt hb
  have:=lnew b hb'
  omega
 ·have a1:h2.get c=h.get c:=by rw [p3 c (by omega) (fun hb=>by have:=(cge _ hb).1;omega),gx.get c (by omega)]
  exact ⟨a1,by rw [r3 c (by omega) (fun hb=>by have:=(lge _ hb).1;omega)];exact a1⟩
theorem KO:∀ ws:List RW,ws.flatMap vq=ws.map RW.av
 |[]=>rfl
 |w :: ws=>by rw [List.flatMap_cons,List.map_cons,KO ws];rfl
theorem KP:∀ ws:List RW,(ws.map fun w=>(w.map (·.2):Sl Int)).flatMap eE=ws.map fun w=>aq encI 1 (w.map (·.2))
 |[]=>rfl
 |w :: ws=>by rw [List.map_cons,List.flatMap_cons,List.map_cons,KP ws];rfl
theorem Ev.vp{k:Nat}{h:ag}{cW lW:AV}{ws:List RW}{ls:List Int}{held:List RW}(t:Ev k h cW lW ws ls held)(hs:∀ w ∈ ws,w ∈ held):∃ x:Sl (Sl Int),x.l.map Sl.l=ws.map RW.l∧Fz true h cW (aq eE 1 x):=by
 have hrow:∀ w ∈ held,Fz true h w.av (aq encI 1 (w.map (·.2))):=fun w hw=>by
  cases w with
  |none=>exact .dD rfl
  |some p=>exact nD (t.ok _ hw p rfl).2.2.1
 obtain ⟨o,_,_,_⟩:=t
 cases o with
 |nil=>exact ⟨none,rfl,.dD rfl⟩
 |row b ws h1 h2 h3=>
  refine ⟨some (ws.map fun w=>(w.map (·.2):Sl Int)),?_,?_⟩
  ·simp only [Sl.l_some,List.map_map]
   refine List.map_congr_left fun w _=>?_
   cases w<;>rfl
  ·have e1:=KO ws
   have e2:=KP ws
   rw [e1] at h3
   have hf:Fz true h (.slice b 0 ws.length 1) (.islice (ws.map fun w=>aq encI 1 (w.map (·.2))) 0 ws.length 1):=by
    refine .slice b 0 ws.length 1 _ _ h3 (by simp) fun i x y hx hy=>?_
    rw [List.getElem?_map] at hx hy
    obtain ⟨w,hw,rfl⟩:=Option.map_eq_some_iff.1 hx
    rw [hw] at hy;cases hy
    exact hrow w (hs w (List.mem_of_getElem? hw))
   have:aq eE 1 (some (ws.map fun w=>(w.map (·.2):Sl Int))) = .islice (ws.map fun w=>aq encI 1 (w.map (·.2))) 0 ws.length 1:=by
    simp only [aq,e2,List.length_map]
   rw [this];exact hf
end
end Go.AM
namespace Go.AM
open Go Go.Proofs
noncomputable section
def kE(xs:List bC):Bool:=xs.all ec&&decide (xs.length≤12)
theorem dM{x:Sl bC}(hx:x.l.length≤cm){h:ag}{K:Out→ag→Bool}(hK:K (.ret (.bool (kE x.l))) h=true):Sem Tryz.prog 134 [aq encS 1 x] h K:=by
 refine F.yw ?_
 rw [F.Ar]
 refine aE 0 x.l.length (Nat.zero_le _) (fun i e h'=>h'=h∧e 0=aq encS 1 x∧e 3 = .int .i64 (i:Int)∧(x.l.take i).all ec=true) ⟨rfl,rfl,rfl,rfl⟩ ?_ ?_
 ·rintro i e h' _ hi ⟨rfl,e0,e3,ht⟩ K' hn hx' hr hp'
  have hv:x.l[i]?=some x.l[i]:=List.getElem?_eq_getElem hi
  generalize x.l[i]=s at hv
  rw [F.dM.aN]
  simp only [e0,e3,aQ,Nat.reduceAdd,Nat.reduceEqDiff,reduceIte,bf hi,aS x hi,iq hv]
  refine ak (ee ?_)
  simp only [aQ,Nat.reduceAdd,Nat.reduceEqDiff,reduceIte]
  cases hq:ec s with
  |false=>
   simp only [Bool.not_false,aC]
   rw [hr,F.dM.aZ]
   have:kE x.l=false:=by unfold kE;rw [all_false hv hq,Bool.false_and]
   rw [this] at hK;exact hK
  |true=>
   simp only [Bool.not_true,aD,aK hi hx,bindO_some]
   exact hn _ _ ⟨rfl,e0,rfl,ic hv ht hq⟩
 ·rintro e h' ⟨rfl,e0,e3,ht⟩ K' hx'
  rw [F.dM.aN]
  simp only [e0,e3,aQ,Nat.reduceAdd,Nat.reduceEqDiff,reduceIte,aT]
  rw [hx',F.dM.aG]
  simp only [e0,aQ,Nat.reduceAdd,Nat.reduceEqDiff,reduceIte]
  rw [List.take_of_length_le (Nat.le_refl _)] at ht
  have:kE x.l=decide ((x.l.length:Int)≤12):=by unfold kE;rw [ht,Bool.true_and];by_cases h:x.l.length≤12<;>simp<;>omega
  rw [this] at hK;exact hK
def rC(r:aB):List bC:=r.args.l++r.body.l.flatMap fun c=>c.args.l
theorem tD(o a b:List bC):eA o (a++b)=eA (eA o a) b:=by unfold eA;rw [List.foldl_append]
theorem tE:∀ (cs:List dO) (o:List bC),jf o cs=eA o (cs.flatMap fun c=>c.args.l)
 |[],o=>rfl
 |c :: cs,o=>by
  rw [List.flatMap_cons,tD]
  exact tE cs (eA o c.args.l)
theorem uf(r:aB):varsOf r=eA [] (rC r):=by
 unfold varsOf rC;rw [tD,tE]
theorem FD{r:aB}(hf:r.kH)(i:Nat):(r.args.l++(r.body.l.take i).flatMap fun c=>c.args.l).length≤3000000:=by
 have:∀ (cs:List dO),(∀ c ∈ cs,c.args.l.length≤1500)→(cs.flatMap fun c=>c.args.l).length≤cs.length*1500:=by
  intro cs
  induction cs with
  |nil=>intro _;simp
  |cons c cs ih=>
   intro h
   have h1:=ih fun d hd=>h d (List.mem_cons_of_mem _ hd)
   have h2:=h c List.mem_cons_self
   rw [List.flatMap_cons,List.length_append,List.length_cons];omega
 have h1:=this (r.body.l.take i) fun c hc=>hf.2.2 c (List.mem_of_mem_take hc)
 have h2:=List.length_take_le i r.body.l
 have h4:=List.length_take_le' i r.body.l
 have:=hf.1;have:=hf.2.1
 rw [List.length_append];omega
theorem bH{r:aB}(hf:r.kH){h:ag}{K:Out→ag→Bool}(hK:∀ x:Sl bC,x.l=varsOf r→K (.ret (aq encS 1 x)) h=true) :
  Sem Tryz.prog 44 [.agg [.str r.name,aq encS 1 r.args,aq bO 4 r.body]] h K:=by
 have hbb:r.body.l.length≤cm:=by have:=hf.2.1;unfold cm;omega
 have main:Sem Tryz.prog 44 [.agg [.str r.name,aq encS 1 r.args,aq bO 4 r.body]] ag.empty (fun o h'=>yes (∃ v,∃ x:Sl bC,o = .ret v∧x.l=varsOf r∧Fz true h' v (aq encS 1 x))):=by
  refine F.sV ?_
  rw [F.tY]
  have hb:ew (.agg [.str r.name,aq encS 1 r.args,aq bO 4 r.body])=some (aL r):=cA (ij r)
  have hrow:fR [] [] []=some []:=rfl
  simp only [hb,hrow,bindO_some,bp,ag.next_alloc]
  have g0:(ag.alloc (ag.alloc ag.empty (.cells (aL r))) (.cells [])).get 0=some (.cells (aL r)):=by simp [ag.aV,bp]
  have g1:(ag.alloc (ag.alloc ag.empty (.cells (aL r))) (.cells [])).get 1=some (.cells (([]:List bC).flatMap encS)):=by simp [ag.aV,bp]
  have gn:(ag.alloc (ag.alloc ag.empty (.cells (aL r))) (.cells [])).next=2:=rfl
  generalize (ag.alloc (ag.alloc ag.empty (.cells (aL r))) (.cells []))=H at g0 g1 gn ⊢
  have o0:Own encS 1 1 H (.slice (0+1) 0 0 1) []:=.row 1 [] (Nat.le_refl _) (by omega) g1
  obtain ⟨a1,h1,p1,p2,p3,p4,p5⟩:=o0.append gL mW (D2 gL r.args H) (by omega) (bytes:=16) (by have:=hf.1;unfold dm;simp only [List.length_nil];omega)
  have g0':h1.get 0=some (.cells (aL r)):=by rw [p3 0 (by omega) (fun hb=>by simp [ep] at hb)];exact g0
  simp only [aQ,Nat.reduceAdd,Nat.reduceEqDiff,reduceIte,an g0,aL]
  simp only [p1,aQ,Nat.reduceAdd,Nat.reduceEqDiff,reduceIte]
  refine aE 0 r.body.l.length (Nat.zero_le _) (fun i e h'=>∃ a,h'.get 0=some (.cells (aL r))∧2≤h'.next∧Own encS 1 1 h' a (r.args.l++(r.body.l.take i).flatMap fun c=>c.args.l)∧e 1 = .ptr 0 0∧e 3=a∧e 4 = .int .i64 (i:Int))
   ⟨a1,g0',by omega,by simpa using p2,rfl,rfl,rfl⟩ ?_ ?_
  ·rintro i e h' _ hi ⟨a,q0,qn,o,e1,e3,e4⟩ K' hn hx hr hp
   have hv:r.body.l[i]?=some r.body.l[i]:=List.getElem?_eq_getElem hi
   generalize r.body.l[i]=c at hv
   have hc:=hf.2.2 c (List.mem_of_getElem? hv)
   obtain ⟨a2,h2,s1,s2,s3,s4,s5⟩:=o.append gL mW (D2 gL c.args h') (by omega) (bytes:=16) (by have:=FD hf i;unfold dm;omega)
   have ld:∀ j,j<4→∀ h,ai none (.iptr (r.body.l.flatMap bO) (i*4+j)) h=(bO c)[j]?:=fun j hj h=>eM gl hv hj
   rw [F.bH.aN]
   simp only [e1,e3,e4,aQ,Nat.reduceAdd,Nat.reduceEqDiff,reduceIte,an q0,aL,bf hi,aS r.body hi]
   simp only [aQ,Nat.reduceAdd,Nat.reduceEqDiff,reduceIte,Nat.add_assoc,Nat.reduceAdd,ld 3 (by omega),bO,s1,aK hi hbb]
   refine hn _ _ ⟨a2,?_,by omega,?_,e1,rfl,rfl⟩
   ·rw [s3 0 (by omega) (fun hb=>by have:=o.ge hb;omega)];exact q0
   ·rw [List.take_add_one,hv,List.flatMap_append,← List.append_assoc];simpa using s2
  ·rintro e h' ⟨a,q0,qn,o,e1,e3,e4⟩ K' hx
   rw [List.take_of_length_le (Nat.le_refl _)] at o
   have hal:(rC r).length≤3000000:=by have:=FD hf r.body.l.length;rw [List.take_of_length_le (Nat.le_refl _)] at this;exact this
   have hab:(rC r).length≤cm:=by unfold cm;omega
   have o':Own encS 1 1 h' a (rC r):=o
   rw [F.bH.aN]
   simp only [e1,e4,aQ,Nat.reduceAdd,Nat.reduceEqDiff,reduceIte,an q0,aL,aT]
   rw [hx,F.bH.aG]
   refine aE 0 (rC r).length (Nat.zero_le _) (fun i e h2=>∃ b,bR h' h2∧Own encS 1 h'.next h2 b (eA [] ((rC r).take i))∧e 3=a∧e 5=b∧e 6 = .int .i64 (i:Int))
    ⟨.nils,bR.refl _,by simpa [eA] using Own.nil,by simp only [bt,Nat.reduceEqDiff,reduceIte,e3],rfl,rfl⟩ ?_ ?_
   ·rintro i e h2 _ hi ⟨b,x2,ob,e3,e5,e6⟩ K2 hn hx2 hr hp
    have hv:(rC r)[i]?=some (rC r)[i]:=List.getElem?_eq_getElem hi
    generalize (rC r)[i]=s at hv
    have oa:=o'.ext x2
    obtain ⟨q,_,g1,g2⟩:=vm oa hv
    have hlb:(eA [] ((rC r).take i)).length≤3000000:=by
     have h1:=mY ((rC r).take i) []
     have h2:=List.length_take_le' i (rC r)
     simp only [List.length_nil] at h1;omega
    have hcomm:((eA [] ((rC r).take i)).any fun x=>x==s)=(eA [] ((rC r).take i)).any fun x=>s==x:=by
     congr 1;funext x;exact Bool.eq_iff_iff.2 ⟨fun h=>by rw [beq_iff_eq] at h ⊢;exact h.symm,fun h=>by rw [beq_iff_eq] at h ⊢;exact h.symm⟩
    have hstep:=xO (o:=[]) hv
    unfold wJ at hstep
    rw [F.bH.dS]
    simp only [e3,e5,e6,oa.len,aQ,Nat.reduceAdd,Nat.reduceEqDiff,reduceIte,bf hi,g1,g2]
    refine ak (dr ob (by unfold cm;omega) ?_)
    rw [hcomm]
    simp only [aQ,Nat.reduceAdd,Nat.reduceEqDiff,reduceIte]
    cases hq:(eA [] ((rC r).take i)).any fun x=>s==x with
    |true=>
     rw [hq,if_pos rfl] at hstep
     simp only [Bool.not_true,aD,aK hi hab,bindO_some]
     exact hn _ _ ⟨b,x2,by rw [hstep];exact ob,e3,e5,rfl⟩
    |false=>
     rw [hq,if_neg (by simp)] at hstep
     obtain ⟨b2,h3,p1,p2,p3,p4,p5,p6⟩:=ob.push gL mW x2.next (bytes:=16) (by unfold dm;omega) s
     simp only [Bool.not_false,aC,e3,e5,e6,g1,g2,aQ,Nat.reduceAdd,Nat.reduceEqDiff,reduceIte,Oi,p1,aK hi hab]
     exact hn _ _ ⟨b2,p5 h' x2 (Nat.le_refl _),by rw [hstep];exact p2,e3,rfl,rfl⟩
   ·rintro e h2 ⟨b,x2,ob,e3,e5,e6⟩ K2 hx2
    have oa:=o'.ext x2
    rw [F.bH.dS]
    simp only [e3,e6,oa.len,aQ,Nat.reduceAdd,Nat.reduceEqDiff,reduceIte,aT]
    rw [hx2,F.bH.cG]
    rw [List.take_of_length_le (Nat.le_refl _),← uf] at ob
    simp only [bt,Nat.reduceEqDiff,reduceIte,e5]
    obtain ⟨x,hx1,hx2⟩:=ob.Ft (fun v y hy=>by
     simp only [encS,List.mem_cons,List.not_mem_nil,or_false] at hy
     subst hy;exact .scalar _ rfl)
    exact cw.2 ⟨b,x,rfl,hx1,hx2⟩
 refine main.frozen (by have:=dR r;simpa [aL,AV.pureL,AV.pure] using this) fun o h' ho=>?_
 obtain ⟨v,x,rfl,hx,hfz⟩:=cw.1 ho
 exact ⟨v,_,rfl,hfz,hK x hx⟩
end
end Go.AM
namespace Go.AM
open Go Go.Proofs
noncomputable section
def Ik(a b:Int):Int:=if b>a then b else a
theorem FE(a b:Int):td true (.int .i64 a) [.int .i64 b]=some (.int .i64 (Ik a b)):=by simp [td,Gx,Ik]
def gZ(ps:List Nat):Int:=ps.foldl (fun a (p:Nat)=>Ik a (p:Int)) (-1)
theorem KQ{o:List bC}{t s:bC}:s ∈ wJ o t↔s ∈ o∨s=t:=by
 unfold wJ
 split
 ·rename_i h
  obtain ⟨x,hx,hq⟩:=List.any_eq_true.1 h
  rw [beq_iff_eq] at hq
  exact ⟨.inl,fun h=>h.elim id fun e=>by rw [e,hq];exact hx⟩
 ·simp
theorem Bb{s:bC}:∀ {l o:List bC},s ∈ eA o l↔s ∈ o∨s ∈ l
 |[],o=>by simp [eA]
 |t :: l,o=>by
  show s ∈ eA (wJ o t) l↔_
  rw [Bb,KQ,List.mem_cons,or_assoc]
theorem FF{r:aB}{s:bC}:s ∈ varsOf r↔s ∈ rC r:=by rw [uf,Bb];simp
theorem iM{r:aB}:∀ s ∈ r.args.l,s ∈ varsOf r:=fun s hs=>FF.2 (List.mem_append_left _ hs)
theorem jq{r:aB}{c:dO}(hc:c ∈ r.body.l):∀ s ∈ c.args.l,s ∈ varsOf r:=fun s hs=>FF.2 (List.mem_append_right _ (List.mem_flatMap.2 ⟨c,hc,hs⟩))
def iC(vars xs:List bC):List Int:=(placesOf vars xs).map fun (p:Nat)=>(p:Int)
theorem KR(i n:Int)(nm:bC)(xs:Sl bC)(ys:Sl dO)(w:RW):kJ [.int .i64 0,.str [],.nils,.nils,.int .i64 0,.nils,.nils,.nils] [(0,1),(1,3),(4,1),(5,1)] [.int .i64 i,.agg [.str nm,aq encS 1 xs,aq bO 4 ys],.int .i64 n,w.av]=some (.agg [.int .i64 i,.str nm,aq encS 1 xs,aq bO 4 ys,.int .i64 n,w.av,.nils,.nils]):=by
 cases xs<;>cases ys<;>cases w<;>rfl
theorem KS(s:St):eL Tryz.prog s Tryz.f109.results.toList=(match ai (some 8) (s.env 4) s.h,(some []:Option (List AV)) with|some v,some vs=>some (v :: vs)|_,_=>none):=by kernel_rfl
theorem Il(a b c d e f g i:AV):hG (some 8) [a,b,c,d,e,f,g,i] 0=some (.agg [a,b,c,d,e,f,g,i]):=rfl
def bI(i:Int)(r:aB)(n:Int)(hd c l:AV):List AV:=[.int .i64 i,.str r.name,aq encS 1 r.args,aq bO 4 r.body,.int .i64 n,hd,c,l]
theorem FG(i:Int)(r:aB)(n:Int)(w:RW){c l:AV}(hc:br [c]=true)(hl:br [l]=true):br (bI i r n w.av c l)=true:=by
 have hw:w.av.one=true:=by cases w<;>rfl
 unfold bI
 simp only [br,Bool.and_true] at hc hl ⊢
 simp only [jm,hw,hc,hl,Bool.and_true];rfl
theorem KT{P:Nat}{h:ag}{cs vs:List AV}(hP:h.get P=some (.cells cs))(hc:cs.length=8)(hv:vs.length=8)(h1:br vs=true):bL 8 (.ptr P 0) (.agg vs) h=some (h.set P (.cells vs)):=by
 rw [dV hP (by exact hv) (by exact h1) (by omega)]
 congr 1
 match cs,hc,vs,hv with
 |[a,b,c,d,e,f,g,i],_,[a',b',c',d',e',f',g',i'],_=>rfl
set_option maxHeartbeats 2000000 in
theorem cu{i0:Int}{r:aB}(hf:r.kH){h:ag}{K:Out→ag→Bool}
  (hK:∀ (hd:Sl Int) (cs:Sl (Sl Int)) (ls:Sl Int),hd.l=iC (varsOf r) r.args.l→cs.l.map Sl.l=r.body.l.map (fun c=>iC (varsOf r) c.args.l)→ls.l=r.body.l.map (fun c=>gZ (placesOf (varsOf r) c.args.l)) →
   K (.ret (.agg (bI i0 r (varsOf r).length (aq encI 1 hd) (aq eE 1 cs) (aq encI 1 ls)))) h=true) :
  Sem Tryz.prog 109 [.int .i64 i0,.agg [.str r.name,aq encS 1 r.args,aq bO 4 r.body]] h K:=by
 have hbb:r.body.l.length≤cm:=by have:=hf.2.1;unfold cm;omega
 have hvl:(varsOf r).length≤3000000:=by have:=Fv hf r.body.l.length;rw [List.take_of_length_le (Nat.le_refl _)] at this;exact this
 have gen:∀ R:Out→ag→Bool,(∀ (h':ag) (hdW:RW) (cW lW:AV) (cs:Sl (Sl Int)) (ls:Sl Int),Fz true h' hdW.av (aq encI 1 (hdW.map (·.2)))→hdW.l=iC (varsOf r) r.args.l→Fz true h' cW (aq eE 1 cs)→Fz true h' lW (aq encI 1 ls) →
   cs.l.map Sl.l=r.body.l.map (fun c=>iC (varsOf r) c.args.l)→ls.l=r.body.l.map (fun c=>gZ (placesOf (varsOf r) c.args.l))→R (.ret (.agg (bI i0 r (varsOf r).length hdW.av cW lW))) h'=true) →
   Sem Tryz.prog 109 [.int .i64 i0,.agg [.str r.name,aq encS 1 r.args,aq bO 4 r.body]] ag.empty R:=by
  intro R fin
  refine F.wj ?_
  rw [F.yA]
  have hb:ew (.agg [.str r.name,aq encS 1 r.args,aq bO 4 r.body])=some (aL r):=cA (ij r)
  simp only [hb,bindO_some,bp,ag.next_alloc]
  have g0:(ag.alloc (ag.alloc ag.empty (.cells (aL r))) (.cells [.int .i64 0,.str [],.nils,.nils,.int .i64 0,.nils,.nils,.nils])).get 0=some (.cells (aL r)):=by simp [ag.aV,bp]
  have g1:(ag.alloc (ag.alloc ag.empty (.cells (aL r))) (.cells [.int .i64 0,.str [],.nils,.nils,.int .i64 0,.nils,.nils,.nils])).get 1=some (.cells [.int .i64 0,.str [],.nils,.nils,.int .i64 0,.nils,.nils,.nils]):=by simp [ag.aV,bp]
  have gn:(ag.alloc (ag.alloc ag.empty (.cells (aL r))) (.cells [.int .i64 0,.str [],.nils,.nils,.int .i64 0,.nils,.nils,.nils])).next=2:=rfl
  generalize (ag.alloc (ag.alloc ag.empty (.cells (aL r))) (.cells [.int .i64 0,.str [],.nils,.nils,.int .i64 0,.nils,.nils,.nils]))=H at g0 g1 gn ⊢
  simp only [an g0,aL,lM,bindO_some]
  refine ak (cV hf fun x hx1=>?_)
  have hxb:x.l.length≤cm:=by rw [hx1];unfold cm;omega
  obtain ⟨H3,hs3,k2,ko,kn⟩:=lu (h:=H) (z:=.nils) (v:=aq encS 1 x) (by cases x<;>rfl) (by simp only [br,jm];rfl)
  have q0:H3.get 0=some (.cells (aL r)):=by rw [ko 0 (by omega)];exact g0
  have q1:H3.get 1=some (.cells [.int .i64 0,.str [],.nils,.nils,.int .i64 0,.nils,.nils,.nils]):=by rw [ko 1 (by omega)];exact g1
  rw [gn] at hs3 k2
  simp only [aQ,Nat.reduceAdd,Nat.reduceEqDiff,reduceIte,gn,hs3]
  simp only [aQ,Nat.reduceAdd,Nat.reduceEqDiff,reduceIte,an q0,an k2,aL,lM,show H3.next=3 by omega]
  have gx:=bR.alloc H3 (.cells [.int .i64 0,.str [],.nils,.nils,.int .i64 0,.nils,.nils,.nils])
  have g3:(H3.alloc (.cells [.int .i64 0,.str [],.nils,.nils,.int .i64 0,.nils,.nils,.nils])).get 3=some (.cells [.int .i64 0,.str [],.nils,.nils,.int .i64 0,.nils,.nils,.nils]):=by
   have:=aI H3 (.cells [.int .i64 0,.str [],.nils,.nils,.int .i64 0,.nils,.nils,.nils]);rw [show H3.next=3 by omega] at this;exact this
  have gn3:(H3.alloc (.cells [.int .i64 0,.str [],.nils,.nils,.int .i64 0,.nils,.nils,.nils])).next=4:=by rw [ag.next_alloc];omega
  generalize (H3.alloc (.cells [.int .i64 0,.str [],.nils,.nils,.int .i64 0,.nils,.nils,.nils]))=H4 at gx g3 gn3 ⊢
  have p0:H4.get 0=some (.cells (aL r)):=by rw [gx.get 0 (by omega)];exact q0
  have p1:H4.get 1=some (.cells [.int .i64 0,.str [],.nils,.nils,.int .i64 0,.nils,.nils,.nils]):=by rw [gx.get 1 (by omega)];exact q1
  have p2:H4.get 2=some (.cells [aq encS 1 x]):=by rw [gx.get 2 (by omega)];exact k2
  refine ak (FB p2 (by omega) (fun s hs=>by rw [hx1];exact iM s hs) (by have:=hf.1;omega) hxb fun a h5 oa x5=>?_)
  rw [gn3] at oa
  obtain ⟨hdW,rfl,hdl,hdk⟩:=KN oa
  have r0:h5.get 0=some (.cells (aL r)):=by rw [x5.get 0 (by omega)];exact p0
  have r1:h5.get 1=some (.cells [.int .i64 0,.str [],.nils,.nils,.int .i64 0,.nils,.nils,.nils]):=by rw [x5.get 1 (by omega)];exact p1
  have r2:h5.get 2=some (.cells [aq encS 1 x]):=by rw [x5.get 2 (by omega)];exact p2
  have r3:h5.get 3=some (.cells [.int .i64 0,.str [],.nils,.nils,.int .i64 0,.nils,.nils,.nils]):=by rw [x5.get 3 (by omega)];exact g3
  have rn:=x5.next
  have hst:=KT (vs:=bI i0 r (varsOf r).length hdW.av .nils .nils) r3 rfl rfl (FG _ _ _ _ rfl rfl)
  have hag:=KR i0 (varsOf r).length r.name r.args r.body hdW
  rw [← hx1] at hst hag
  simp only [aQ,Nat.reduceAdd,Nat.reduceEqDiff,reduceIte,an r0,an r2,aL,lM,AV.beq_refl,Bool.and_self,Bool.and_true,if_true,hag]
  simp only [bI] at hst
  simp only [hst,aQ,Nat.reduceAdd,Nat.reduceEqDiff,reduceIte]
  have t0:Ev 4 (h5.set 3 (.cells (bI i0 r x.l.length hdW.av .nils .nils))) .nils .nils [] [] [hdW]:=
   (Ev.low ⟨.nil,.nil,fun w hw p hp=>by
    rw [List.mem_singleton] at hw;subst hw
    obtain ⟨a1,a2,a3⟩:=hdk p hp
    exact ⟨a1,a2,a3,by simp [ep],by simp [ep]⟩,fun b hb=>by simp [ep] at hb⟩ (by omega) _)
  have s0:(h5.set 3 (.cells (bI i0 r x.l.length hdW.av .nils .nils))).get 0=some (.cells (aL r)):=by rw [ag.aO,if_neg (by omega)];exact r0
  have s1:(h5.set 3 (.cells (bI i0 r x.l.length hdW.av .nils .nils))).get 1=some (.cells [.int .i64 0,.str [],.nils,.nils,.int .i64 0,.nils,.nils,.nils]):=by rw [ag.aO,if_neg (by omega)];exact r1
  have s2:(h5.set 3 (.cells (bI i0 r x.l.length hdW.av .nils .nils))).get 2=some (.cells [aq encS 1 x]):=by rw [ag.aO,if_neg (by omega)];exact r2
  have s3:(h5.set 3 (.cells (bI i0 r x.l.length hdW.av .nils .nils))).get 3=some (.cells (bI i0 r x.l.length hdW.av .nils .nils)):=by rw [ag.aO,if_pos rfl]
  have sn:(h5.set 3 (.cells (bI i0 r x.l.length hdW.av .nils .nils))).next=h5.next:=ag.next_set _ _ _
  simp only [bI] at t0 s0 s1 s2 s3 sn
  generalize (h5.set 3 (.cells [.int .i64 i0,.str r.name,aq encS 1 r.args,aq bO 4 r.body,.int .i64 (x.l.length:Int),hdW.av,.nils,.nils]))=H6 at t0 s0 s1 s2 s3 sn ⊢
  simp only [an s0,aL,aQ,Nat.reduceAdd,Nat.reduceEqDiff,reduceIte]
  refine aE 0 r.body.l.length (Nat.zero_le _) (fun i e h'=>∃ cW lW ws ls,Ev 4 h' cW lW ws ls (hdW :: ws)∧ws.map RW.l=(r.body.l.take i).map (fun c=>iC (varsOf r) c.args.l)∧ls=(r.body.l.take i).map (fun c=>gZ (placesOf (varsOf r) c.args.l)) ∧
   h'.get 1=some (.cells [.int .i64 0,.str [],.nils,.nils,.int .i64 0,.nils,.nils,.nils])∧h'.get 2=some (.cells [aq encS 1 x])∧h'.get 3=some (.cells [.int .i64 i0,.str r.name,aq encS 1 r.args,aq bO 4 r.body,.int .i64 (x.l.length:Int),hdW.av,cW,lW])∧4≤h'.next ∧
   e 4 = .ptr 1 0∧e 6 = .func 156 [] [.ptr 2 0]∧e 7 = .ptr 3 0∧e 28=aq bO 4 r.body∧e 29 = .int .i64 (r.body.l.length:Int)∧e 30 = .int .i64 (i:Int))
   ⟨.nils,.nils,[],[],t0,rfl,rfl,s1,s2,s3,by omega,rfl,rfl,rfl,rfl,rfl,rfl⟩ ?_ ?_
  ·rintro i e h' _ hi ⟨cW,lW,ws,ls,tw,hws,hls,u1,u2,u3,un,e4,e6,e7,e28,e29,e30⟩ K' hn hx hr hp
   have hv:r.body.l[i]?=some r.body.l[i]:=List.getElem?_eq_getElem hi
   generalize r.body.l[i]=c at hv
   have hcm:=List.mem_of_getElem? hv
   have hc15:=hf.2.2 c hcm
   obtain ⟨H2,hs2,c1,co,cn⟩:=cL (h:=h') (zs:=[.int .i64 0,.bool false,.str [],.nils]) (cs:=bO c) (n:=4) rfl rfl (gm c)
   have x2:bR h' H2:=⟨by omega,fun b hb=>co b (by omega)⟩
   rw [F.cu.aN]
   simp only [e6,e28,e29,e30,aQ,Nat.reduceAdd,Nat.reduceEqDiff,reduceIte,bf hi,aS r.body hi,cZ gl hv,hs2]
   simp only [aQ,Nat.reduceAdd,Nat.reduceEqDiff,reduceIte,an c1,bO,callV_func,List.nil_append,List.cons_append]
   refine ak (FB (xs:=c.args) (by rw [x2.get 2 (by omega)];exact u2) (by omega) (fun s hs=>by rw [hx1];exact jq hcm s hs) (by omega) hxb fun a h3 oa x3=>?_)
   rw [hx1] at oa
   obtain ⟨w,rfl,hwl,hwk⟩:=KN oa
   have x23:=x2.trans x3
   have tw3:=tw.ext x23
   have v1:h3.get 1=some (.cells [.int .i64 0,.str [],.nils,.nils,.int .i64 0,.nils,.nils,.nils]):=by rw [x23.get 1 (by omega)];exact u1
   have v2:h3.get 2=some (.cells [aq encS 1 x]):=by rw [x23.get 2 (by omega)];exact u2
   have v3:h3.get 3=some (.cells [.int .i64 i0,.str r.name,aq encS 1 r.args,aq bO 4 r.body,.int .i64 (x.l.length:Int),hdW.av,cW,lW]):=by rw [x23.get 3 (by omega)];exact u3
   have vn:=x23.next
   have twh:Ev 4 h3 cW lW ws ls (hdW :: ws++[w]):=tw3.hold (j:=H2.next) (fun p hp=>by
    obtain ⟨a1,a2,a3⟩:=hwk p hp
    exact ⟨a1,by omega,a2,a3⟩) (fun b hb=>by have:=tw.oc.lt hb;omega) (fun b hb=>by have:=tw.ol.lt hb;omega)
   have hpl:(placesOf (varsOf r) c.args.l).length≤cm:=by unfold placesOf cm;rw [List.length_map];omega
   have hlen:∀ h,bQ .slice w.av h=some (.int .i64 ((placesOf (varsOf r) c.args.l).length:Int)):=fun h=>by rw [oa.len];simp
   simp only [aQ,Nat.reduceAdd,Nat.reduceEqDiff,reduceIte,hlen]
   refine aE 0 (placesOf (varsOf r) c.args.l).length (Nat.zero_le _) (fun j e h2=>h2=h3∧e 4 = .ptr 1 0∧e 6 = .func 156 [] [.ptr 2 0]∧e 7 = .ptr 3 0∧e 28=aq bO 4 r.body∧e 29 = .int .i64 (r.body.l.length:Int)∧e 30 = .int .i64 (i:Int) ∧
    e 10=w.av∧e 11 = .int .i64 (gZ ((placesOf (varsOf r) c.args.l).take j))∧e 39=w.av∧e 40 = .int .i64 ((placesOf (varsOf r) c.args.l).length:Int)∧e 41 = .int .i64 (j:Int)) ⟨rfl,e4,e6,e7,e28,e29,e30,rfl,rfl,rfl,rfl,rfl⟩ ?_ ?_
   ·rintro j e h2 _ hj ⟨rfl,e4,e6,e7,e28,e29,e30,e10,e11,e39,e40,e41⟩ K2 hn2 hx2 hr2 hp2
    have hpj:(placesOf (varsOf r) c.args.l)[j]?=some (placesOf (varsOf r) c.args.l)[j]:=List.getElem?_eq_getElem hj
    generalize (placesOf (varsOf r) c.args.l)[j]=p at hpj
    have hpi:((placesOf (varsOf r) c.args.l).map fun (p:Nat)=>(p:Int))[j]?=some (p:Int):=by rw [List.getElem?_map,hpj];rfl
    obtain ⟨b,_,_,i1,_,i3⟩:=oa.get od hpi
    have i3':ai none (.ptr b (j*1)) h2=some (.int .i64 (p:Int)):=i3 0 (by omega)
    rw [F.cu.dS]
    simp only [e11,e39,e40,e41,aQ,Nat.reduceAdd,Nat.reduceEqDiff,reduceIte,bf hj,i1,i3',FE,aK hj hpl]
    refine hn2 _ _ ⟨rfl,e4,e6,e7,e28,e29,e30,e10,?_,e39,e40,rfl⟩
    have:gZ ((placesOf (varsOf r) c.args.l).take (j+1))=Ik (gZ ((placesOf (varsOf r) c.args.l).take j)) (p:Int):=by unfold gZ;rw [List.take_add_one,hpj];simp
    rw [this];rfl
   ·rintro e h2 ⟨rfl,e4,e6,e7,e28,e29,e30,e10,e11,e39,e40,e41⟩ K2 hx2
    rw [List.take_of_length_le (Nat.le_refl _)] at e11
    have hwsl:ws.length≤1500:=by have h1:=congrArg List.length hws;simp only [List.length_map] at h1;have h2:=List.length_take_le' i r.body.l;have:=hf.2.1;omega
    have hlsl:ls.length≤1500:=by rw [hls,List.length_map];have h2:=List.length_take_le' i r.body.l;have:=hf.2.1;omega
    obtain ⟨c',l',m2,m3,t1,t2,t3,t4,t5⟩:=twh.push (by omega) (by omega) (by omega) w (gZ (placesOf (varsOf r) c.args.l))
    have y3:m2.get 3=some (.cells [.int .i64 i0,.str r.name,aq encS 1 r.args,aq bO 4 r.body,.int .i64 (x.l.length:Int),hdW.av,cW,lW]):=by rw [(t4 3 (by omega)).1];exact v3
    have z3:m3.get 3=some (.cells [.int .i64 i0,.str r.name,aq encS 1 r.args,aq bO 4 r.body,.int .i64 (x.l.length:Int),hdW.av,cW,lW]):=by rw [(t4 3 (by omega)).2];exact v3
    obtain ⟨w1,w2⟩:=ry t3.oc
    obtain ⟨w3,w4⟩:=ry t3.ol
    have st1:bL 1 (.ptr 3 6) c' m3=some (m3.set 3 (.cells [.int .i64 i0,.str r.name,aq encS 1 r.args,aq bO 4 r.body,.int .i64 (x.l.length:Int),hdW.av,c',lW])):=by
     rw [dV (n:=1) z3 (by rw [w1];rfl) (by rw [w1];exact w2) (by simp),w1];rfl
    have z4:(m3.set 3 (.cells [.int .i64 i0,.str r.name,aq encS 1 r.args,aq bO 4 r.body,.int .i64 (x.l.length:Int),hdW.av,c',lW])).get 3=some (.cells [.int .i64 i0,.str r.name,aq encS 1 r.args,aq bO 4 r.body,.int .i64 (x.l.length:Int),hdW.av,c',lW]):=by rw [ag.aO,if_pos rfl]
    have st2:bL 1 (.ptr 3 7) l' (m3.set 3 (.cells [.int .i64 i0,.str r.name,aq encS 1 r.args,aq bO 4 r.body,.int .i64 (x.l.length:Int),hdW.av,c',lW]))=some ((m3.set 3 (.cells [.int .i64 i0,.str r.name,aq encS 1 r.args,aq bO 4 r.body,.int .i64 (x.l.length:Int),hdW.av,c',lW])).set 3 (.cells [.int .i64 i0,.str r.name,aq encS 1 r.args,aq bO 4 r.body,.int .i64 (x.l.length:Int),hdW.av,c',l'])):=by
     rw [dV (n:=1) z4 (by rw [w3];rfl) (by rw [w3];exact w4) (by simp),w3];rfl
    rw [F.cu.dS]
    simp only [e40,e41,aQ,Nat.reduceAdd,Nat.reduceEqDiff,reduceIte,aT]
    rw [hx2,F.cu.cG]
    simp only [e7,e10,e11,e30,aQ,Nat.reduceAdd,Nat.reduceEqDiff,reduceIte,an v3,Sg,KG,ag.next_alloc]
    rw [an (r:=none) (o:=7) (h:=(ag.alloc h2 (.cells (vq w)))) (cs:=[.int .i64 i0,.str r.name,aq encS 1 r.args,aq bO 4 r.body,.int .i64 (x.l.length:Int),hdW.av,cW,lW]) (by rw [ag.aV,if_neg (by omega)];exact v3)]
    simp only [aQ,Nat.reduceAdd,Nat.reduceEqDiff,reduceIte,KG,ag.next_alloc,t1,an y3,AV.beq_refl,Bool.and_self,if_true,t2,st1,st2,aK hi hbb]
    refine hn _ _ ⟨c',l',ws++[w],ls++[gZ (placesOf (varsOf r) c.args.l)],(t3.low (by omega) _).low (by omega) _,?_,?_,?_,?_,by rw [ag.aO,if_pos rfl],by rw [ag.next_set,ag.next_set];omega,e4,e6,e7,e28,e29,rfl⟩
    ·rw [List.map_append,hws,List.take_add_one,hv,List.map_append]
     simp only [List.map_cons,List.map_nil,Option.toList_some]
     rw [hwl];rfl
    ·rw [hls,List.take_add_one,hv,List.map_append];rfl
    ·rw [ag.aO,if_neg (by omega),ag.aO,if_neg (by omega),(t4 1 (by omega)).2];exact v1
    ·rw [ag.aO,if_neg (by omega),ag.aO,if_neg (by omega),(t4 2 (by omega)).2];exact v2
  ·rintro e h' ⟨cW,lW,ws,ls,tw,hws,hls,u1,u2,u3,un,e4,e6,e7,e28,e29,e30⟩ K' hx
   rw [List.take_of_length_le (Nat.le_refl _)] at hws hls
   obtain ⟨_,w2⟩:=ry tw.oc
   obtain ⟨_,w4⟩:=ry tw.ol
   have hst2:=KT (vs:=bI i0 r x.l.length hdW.av cW lW) u1 rfl rfl (FG _ _ _ _ w2 w4)
   simp only [bI] at hst2
   rw [F.cu.aN]
   simp only [e29,e30,aQ,Nat.reduceAdd,Nat.reduceEqDiff,reduceIte,aT]
   rw [hx,F.cu.aG]
   simp only [e4,e7,aQ,Nat.reduceAdd,Nat.reduceEqDiff,reduceIte,an u3,Il,hst2,KS]
   have tf:=tw.low (by omega:1<4) (.cells [.int .i64 i0,.str r.name,aq encS 1 r.args,aq bO 4 r.body,.int .i64 (x.l.length:Int),hdW.av,cW,lW])
   have gf:(h'.set 1 (.cells [.int .i64 i0,.str r.name,aq encS 1 r.args,aq bO 4 r.body,.int .i64 (x.l.length:Int),hdW.av,cW,lW])).get 1=some (.cells [.int .i64 i0,.str r.name,aq encS 1 r.args,aq bO 4 r.body,.int .i64 (x.l.length:Int),hdW.av,cW,lW]):=by rw [ag.aO,if_pos rfl]
   simp only [bt,Nat.reduceEqDiff,reduceIte,e4,an gf,Il,bindO_some,oneOf]
   obtain ⟨cs,cs1,cs2⟩:=tf.vp (fun w hw=>List.mem_cons_of_mem _ hw)
   obtain ⟨lx,lx1,lx2⟩:=tf.ol.Ft (fun v y hy=>by
    simp only [encI,List.mem_cons,List.not_mem_nil,or_false] at hy
    subst hy;exact .scalar _ rfl)
   have hfz:Fz true (h'.set 1 (.cells [.int .i64 i0,.str r.name,aq encS 1 r.args,aq bO 4 r.body,.int .i64 (x.l.length:Int),hdW.av,cW,lW])) hdW.av (aq encI 1 (hdW.map (·.2))):=by
    cases hdW with
    |none=>exact .dD rfl
    |some p=>exact nD (tf.ok _ List.mem_cons_self p rfl).2.2.1
   have:=fin _ hdW cW lW cs lx hfz (by rw [← hx1];exact hdl) cs2 lx2 (by rw [cs1,hws]) (by rw [lx1,hls])
   rw [← hx1] at this
   exact this
 have main:=gen (fun o h'=>yes (∃ (hdW:RW) (cW lW:AV) (cs:Sl (Sl Int)) (ls:Sl Int),o = .ret (.agg (bI i0 r (varsOf r).length hdW.av cW lW))∧Fz true h' hdW.av (aq encI 1 (hdW.map (·.2)))∧hdW.l=iC (varsOf r) r.args.l∧Fz true h' cW (aq eE 1 cs)∧Fz true h' lW (aq encI 1 ls) ∧
   cs.l.map Sl.l=r.body.l.map (fun c=>iC (varsOf r) c.args.l)∧ls.l=r.body.l.map (fun c=>gZ (placesOf (varsOf r) c.args.l)))) (fun h' hdW cW lW cs ls f1 f2 f3 f4 f5 f6=>cw.2 ⟨hdW,cW,lW,cs,ls,rfl,f1,f2,f3,f4,f5,f6⟩)
 refine main.frozen (by have:=dR r;simpa [aL,AV.pureL,AV.pure] using this) fun o h' ho=>?_
 obtain ⟨hdW,cW,lW,cs,ls,rfl,f1,f2,f3,f4,f5,f6⟩:=cw.1 ho
 have fl:jB true h' (bI i0 r (varsOf r).length hdW.av cW lW) (bI i0 r (varsOf r).length (aq encI 1 (hdW.map (·.2))) (aq eE 1 cs) (aq encI 1 ls)):=
  .cons (.scalar _ rfl) (.cons (.scalar _ rfl) (.cons (.dD (bF gH _)) (.cons (.dD (bF A0 _)) (.cons (.scalar _ rfl) (.cons f1 (.cons f3 (.cons f4 .nil)))))))
 exact ⟨_,_,rfl,.agg _ _ fl.len fl.rel,hK (hdW.map (·.2)) cs ls (by rw [← f2];cases hdW<;>rfl) f5 f6⟩
end
end Go.AM
namespace Go.AM
open Go Go.Proofs
noncomputable section
theorem fV(vs:List Int)(ps:List Nat):(aR vs ps).length=ps.length:=by simp [aR]
theorem iN{n:Nat}{vs:List Int}(hb:gQ n vs=true){ps:List Nat}(hps:∀ p ∈ ps,p<vs.length):gQ n (aR vs ps)=true:=by
 unfold gQ at hb ⊢
 rw [List.all_eq_true] at hb ⊢
 intro v hv
 unfold aR at hv
 obtain ⟨p,hp,rfl⟩:=List.mem_map.1 hv
 have hpl:=hps p hp
 refine hb _ ?_
 rw [List.getD_eq_getElem?_getD,List.getElem?_eq_getElem hpl]
 exact List.getElem_mem hpl
theorem ir{vars xs:List bC}(h:∀ s ∈ xs,s ∈ vars):∀ p ∈ placesOf vars xs,p<vars.length:=fun p hp=>by
 unfold placesOf at hp
 obtain ⟨s,hs,rfl⟩:=List.mem_map.1 hp
 exact List.idxOf_lt_length_of_mem (h s hs)
structure Bc (n:Nat) (D:bC→Option (Nat×List Bool)) (r:aB):Prop where
 rel:∀ c ∈ r.body.l,c.kind=0→n ^ c.args.l.length≤4096∧∃ p,D c.name=some p∧p.2.length=n ^ c.args.l.length
 two:∀ c ∈ r.body.l,c.kind=1∨c.kind=2→c.args.l.length=2
 kinds:∀ c ∈ r.body.l,c.kind=0∨c.kind=1∨c.kind=2
 arity:∀ c ∈ r.body.l,c.args.l.length≤12
def aU(r:aB)(c:dO):List Nat:=placesOf (varsOf r) c.args.l
def yV(n:Nat)(look:bC→Nat→Bool)(r:aB)(vs:List Int)(upto:Int):Bool:=r.body.l.all fun c=>!decide (gZ (aU r c)=upto)||cX n look c (aR vs (aU r c))
set_option maxHeartbeats 1000000 in
theorem FH{S B n lo N0 N1 N4 V:Nat}{D:bC→Option (Nat×List Bool)}{h:ag}{r:aB}{i0 nv:Int}{hd:Sl Int}{cs:Sl (Sl Int)}{ls:Sl Int}{vs:List Int}(hf:r.kH)(hcs:cs.l.map Sl.l=r.body.l.map (fun c=>iC (varsOf r) c.args.l))(hls:ls.l=r.body.l.map (fun c=>gZ (placesOf (varsOf r) c.args.l)))
  (hS:h.get S=some (.cells [.int .i64 (n:Int),.map B])) (hD:ef D h B lo) (hSn:S<h.next) (h0:h.get N0=some (.cells [.ptr S 0])) (h0n:N0<h.next) (h1:h.get N1=some (.cells (bI i0 r nv (aq encI 1 hd) (aq eE 1 cs) (aq encI 1 ls)))) (h1n:N1<h.next)
  (h4:h.get N4=some (.cells [.slice V 0 vs.length 1])) (h4n:N4<h.next) (hV:h.get V=some (.cells (vs.map iv))) (hVn:V<h.next) (hvl:vs.length=(varsOf r).length) (hvs:gQ n vs=true) (n1:1≤n) (hk:Bc n D r) {upto:Int} {K:Out→ag→Bool}
  (hK:∀ h',bR h h'→K (.ret (.bool (yV n (dB D) r vs upto))) h'=true):Sem Tryz.prog 166 [.int .i64 upto,.ptr N1 0,.ptr N0 0,.ptr N4 0] h K:=by
 have hbb:r.body.l.length≤cm:=by have:=hf.2.1;unfold cm;omega
 have hcl:cs.l.length=r.body.l.length:=by have:=congrArg List.length hcs;simpa using this
 have hll:ls.l.length=r.body.l.length:=by rw [hls];simp
 refine F.pz ?_
 rw [F.qm]
 simp only [bI] at h1
 simp only [aQ,Nat.reduceAdd,Nat.reduceEqDiff,reduceIte,an h1]
 refine aE 0 r.body.l.length (Nat.zero_le _) (fun i e h'=>bR h h'∧e 0 = .int .i64 upto∧e 1 = .ptr N1 0∧e 2 = .ptr N0 0∧e 3 = .ptr N4 0∧e 10=aq bO 4 r.body∧e 11 = .int .i64 (r.body.l.length:Int)∧e 12 = .int .i64 (i:Int) ∧
  (r.body.l.take i).all (fun c=>!decide (gZ (aU r c)=upto)||cX n (dB D) c (aR vs (aU r c)))=true) ⟨bR.refl _,rfl,rfl,rfl,rfl,rfl,rfl,rfl,rfl⟩ ?_ ?_
 ·rintro i e h' _ hi ⟨x1,e0,e1,e2,e3,e10,e11,e12,ht⟩ K' hn hx hr hp
  have hv:r.body.l[i]?=some r.body.l[i]:=List.getElem?_eq_getElem hi
  generalize r.body.l[i]=c at hv
  have hcm:=List.mem_of_getElem? hv
  obtain ⟨H2,hs2,c1,co,cn⟩:=cL (h:=h') (zs:=[.int .i64 0,.bool false,.str [],.nils]) (cs:=bO c) (n:=4) rfl rfl (gm c)
  have x2:bR h H2:=x1.trans ⟨by omega,fun b hb=>co b (by omega)⟩
  have q1:H2.get N1=some (.cells [.int .i64 i0,.str r.name,aq encS 1 r.args,aq bO 4 r.body,.int .i64 nv,aq encI 1 hd,aq eE 1 cs,aq encI 1 ls]):=by rw [x2.get _ h1n];exact h1
  have q0:H2.get N0=some (.cells [.ptr S 0]):=by rw [x2.get _ h0n];exact h0
  have q4:H2.get N4=some (.cells [.slice V 0 vs.length 1]):=by rw [x2.get _ h4n];exact h4
  have qV:H2.get V=some (.cells (vs.map iv)):=by rw [x2.get _ hVn];exact hV
  have hlast:ls.l[i]?=some (gZ (aU r c)):=by rw [hls,List.getElem?_map,hv];rfl
  have n1x:=x1.next
  rw [F.cF.aN]
  simp only [e0,e1,e2,e3,e10,e11,e12,aQ,Nat.reduceAdd,Nat.reduceEqDiff,reduceIte,bf hi,aS r.body hi,cZ gl hv,hs2]
  simp only [aQ,Nat.reduceAdd,Nat.reduceEqDiff,reduceIte,an q1,aS ls (show i<ls.l.length by omega),eT hlast,ct]
  by_cases hu:gZ (aU r c)=upto
  ·have hci:i<cs.l.length:=by omega
   have hrow:cs.l[i]?=some cs.l[i]:=List.getElem?_eq_getElem hci
   have hxl:(cs.l[i]).l=(aU r c).map fun (p:Nat)=>(p:Int):=by
    have h3:(cs.l.map Sl.l)[i]?=some (iC (varsOf r) c.args.l):=by rw [hcs,List.getElem?_map,hv];rfl
    rw [List.getElem?_map,hrow] at h3
    exact Option.some.inj h3
   generalize cs.l[i]=xi at hrow hxl
   have hpl:∀ p ∈ aU r c,p<vs.length:=by rw [hvl];exact ir (jq hcm)
   have hplen:(aU r c).length=c.args.l.length:=by unfold aU placesOf;simp
   simp only [decide_eq_true hu,aC,aQ,Nat.reduceAdd,Nat.reduceEqDiff,reduceIte,an q0,an q4,an q1,an c1,bO,zo,aS cs hci,iT hrow]
   refine ak (Ij (ps:=aU r c) qV (by have:=x2.next;omega) rfl hxl hpl (by rw [hplen];have:=hk.arity c hcm;omega) fun h3 t1 x3 t2=>?_)
   have c3:h3.get h'.next=some (.cells (bO c)):=by rw [x3.get _ (by omega)];exact c1
   have q03:h3.get N0=some (.cells [.ptr S 0]):=by rw [x3.get _ (by have:=x2.next;omega)];exact q0
   have x23:=x2.trans x3
   simp only [aQ,Nat.reduceAdd,Nat.reduceEqDiff,reduceIte,an c3,an q03,bO,zo,AV.beq_refl,Bool.and_self,Bool.and_true,if_true]
   have hvlen:=fV vs (aU r c)
   have hS3:h3.get S=some (.cells [.int .i64 (n:Int),.map B]):=by rw [x23.get _ hSn];exact hS
   rw [← hvlen]
   refine ak (xT (D:=D) (lo:=lo) hS3 (hD.ext x23) n1 t1 t2 (by have:=x23.next;omega) (by rw [hvlen,hplen];exact hk.arity c hcm) (iN hvs hpl) (fun k0=>by rw [hvlen,hplen];exact hk.rel c hcm k0) (fun k12=>by rw [hvlen,hplen];exact hk.two c hcm k12) (hk.kinds c hcm) fun h5 x5=>?_)
   simp only [aQ,Nat.reduceAdd,Nat.reduceEqDiff,reduceIte]
   cases hcv:cX n (dB D) c (aR vs (aU r c)) with
   |false=>
    simp only [Bool.not_false,aC]
    rw [hr,F.cF.aZ]
    have:yV n (dB D) r vs upto=false:=all_false hv (by rw [decide_eq_true hu,hcv];rfl)
    rw [this] at hK
    exact hK h5 (x23.trans x5)
   |true=>
    simp only [Bool.not_true,aD,e12,aK hi hbb,bindO_some]
    exact hn _ _ ⟨x23.trans x5,e0,e1,e2,e3,e10,e11,rfl,ic hv ht (by rw [hcv,Bool.or_true])⟩
  ·simp only [decide_eq_false hu,aD,e12,aK hi hbb,bindO_some]
   exact hn _ _ ⟨x2,e0,e1,e2,e3,e10,e11,rfl,ic hv ht (by rw [decide_eq_false hu];rfl)⟩
 ·rintro e h' ⟨x1,e0,e1,e2,e3,e10,e11,e12,ht⟩ K' hx
  rw [List.take_of_length_le (Nat.le_refl _)] at ht
  rw [F.cF.aN]
  simp only [e11,e12,aQ,Nat.reduceAdd,Nat.reduceEqDiff,reduceIte,aT]
  rw [hx,F.cF.aG]
  have:yV n (dB D) r vs upto=true:=ht
  rw [this] at hK
  exact hK h' x1
end
end Go.AM
namespace Go.AM
open Go Go.Proofs
noncomputable section
structure OT (σ:Type) (Abs:σ→ag→Prop) (Dof:σ→bC→Option (Nat×List Bool)) (doF:List Int→σ→σ) (S B n lo base k:Nat) (r:aB) (g:FuncId) (ga gb:List AV):Prop where
 n1:1≤n
 n64:n≤64
 sb:S<base
 st:∀ s h,Abs s h→h.get S=some (.cells [.int .i64 (n:Int),.map B])∧ef (Dof s) h B lo∧Bc n (Dof s) r
 keep:∀ s h h',Abs s h→base≤h.next→(∀ b,b<base→h'.get b=h.get b)→h.next≤h'.next→Abs s h'
 run:∀ s h V vs K,Abs s h→base≤V→V<h.next→h.get V=some (.cells (vs.map iv))→vs.length=k→gQ n vs=true →
  (∀ h',Abs (doF vs s) h'→(∀ b,base≤b→b<h.next→h'.get b=h.get b)→h.next≤h'.next→K (.ret (.bool true)) h'=true)→Sem Tryz.prog g (ga++([.slice V 0 vs.length 1]++gb)) h K
def jM{σ:Type}(Dof:σ→bC→Option (Nat×List Bool))(n:Nat)(r:aB)(v:Nat)(go:List Int→σ→List Int×σ)(acc:List Int×σ)(x:Nat):List Int×σ:=
 if yV n (dB (Dof acc.2)) r (acc.1.set v (x:Int)) (v:Int)=true then go (acc.1.set v (x:Int)) acc.2 else (acc.1.set v (x:Int),acc.2)
def gC{σ:Type}(Dof:σ→bC→Option (Nat×List Bool))(doF:List Int→σ→σ)(n:Nat)(r:aB):Nat→Nat→List Int→σ→List Int×σ
 |0,_,vs,s=>(vs,doF vs s)
 |m+1,v,vs,s=>(List.range n).foldl (jM Dof n r v (gC Dof doF n r m (v+1))) (vs,s)
theorem pJ{n:Nat}{vs:List Int}(h:gQ n vs=true)(v:Nat){x:Nat}(hx:x<n):gQ n (vs.set v (x:Int))=true:=by
 unfold gQ at h ⊢
 rw [List.all_eq_true] at h ⊢
 intro y hy
 rcases List.mem_or_eq_of_mem_set hy with hy|rfl
 ·exact h y hy
 ·simp;omega
theorem fo{α β:Type}{P:α→Prop}{f:α→β→α}:∀ {l:List β} {a:α},P a→(∀ a b,b ∈ l→P a→P (f a b))→P (l.foldl f a)
 |[],a,h,_=>h
 |b :: l,a,h,hf=>fo (l:=l) (hf a b List.mem_cons_self h) fun a c hc=>hf a c (List.mem_cons_of_mem _ hc)
theorem FI{σ:Type}{Dof:σ→bC→Option (Nat×List Bool)}{doF:List Int→σ→σ}{n:Nat}{r:aB}{k:Nat}:∀ (m v:Nat) (vs:List Int) (s:σ),vs.length=k→gQ n vs=true→(gC Dof doF n r m v vs s).1.length=k∧gQ n (gC Dof doF n r m v vs s).1=true
 |0,v,vs,s,h1,h2=>⟨h1,h2⟩
 |m+1,v,vs,s,h1,h2=>by
  refine fo (P:=fun (a:List Int×σ)=>a.1.length=k∧gQ n a.1=true) ⟨h1,h2⟩ fun a x hx ha=>?_
  have hxn:=List.mem_range.1 hx
  have h3:(a.1.set v (x:Int)).length=k:=by rw [List.length_set];exact ha.1
  have h4:=pJ ha.2 v hxn
  unfold jM
  split
  ·exact FI m (v+1) _ _ h3 h4
  ·exact ⟨h3,h4⟩
structure Cells (S n k:Nat) (N0 N1 N2 N4 N5 N6 V base:Nat) (i0:Int) (r:aB) (hd:Sl Int) (cs:Sl (Sl Int)) (ls:Sl Int) (g:FuncId) (ga gb:List AV) (h:ag):Prop where
 h0:h.get N0=some (.cells [.ptr S 0])
 h1:h.get N1=some (.cells (bI i0 r k (aq encI 1 hd) (aq eE 1 cs) (aq encI 1 ls)))
 h2:h.get N2=some (.cells [.func g ga gb])
 h4:h.get N4=some (.cells [.slice V 0 k 1])
 h5:h.get N5=some (.cells [.func 166 [] [.ptr N1 0,.ptr N0 0,.ptr N4 0]])
 h6:h.get N6=some (.cells [.func 167 [] [.ptr N1 0,.ptr N2 0,.ptr N4 0,.ptr N0 0,.ptr N5 0,.ptr N6 0]])
 lo:base≤N0∧base≤N1∧base≤N2∧base≤N4∧base≤N5∧base≤N6∧base≤V
 hi:N0<h.next∧N1<h.next∧N2<h.next∧N4<h.next∧N5<h.next∧N6<h.next∧V<h.next
 ne:N0≠V∧N1≠V∧N2≠V∧N4≠V∧N5≠V∧N6≠V
theorem Cells.keep{S n k N0 N1 N2 N4 N5 N6 V base:Nat}{i0:Int}{r:aB}{hd:Sl Int}{cs:Sl (Sl Int)}{ls:Sl Int}{g:FuncId}{ga gb:List AV}{h h':ag}(c:Cells S n k N0 N1 N2 N4 N5 N6 V base i0 r hd cs ls g ga gb h)(hb:∀ b,base≤b→b<h.next→b≠V→h'.get b=h.get b)(hn:h.next≤h'.next) :
  Cells S n k N0 N1 N2 N4 N5 N6 V base i0 r hd cs ls g ga gb h':=by
 obtain ⟨h0,h1,h2,h4,h5,h6,⟨l0,l1,l2,l4,l5,l6,lv⟩,⟨i0',i1,i2,i4,i5,i6,iv'⟩,⟨n0,n1,n2,n4,n5,n6⟩⟩:=c
 exact ⟨by rw [hb _ l0 i0' n0];exact h0,by rw [hb _ l1 i1 n1];exact h1,by rw [hb _ l2 i2 n2];exact h2,by rw [hb _ l4 i4 n4];exact h4,by rw [hb _ l5 i5 n5];exact h5,by rw [hb _ l6 i6 n6];exact h6,
  ⟨l0,l1,l2,l4,l5,l6,lv⟩,⟨by omega,by omega,by omega,by omega,by omega,by omega,by omega⟩,⟨n0,n1,n2,n4,n5,n6⟩⟩
set_option maxHeartbeats 1000000 in
theorem I7{σ:Type}{Abs:σ→ag→Prop}{Dof:σ→bC→Option (Nat×List Bool)}{doF:List Int→σ→σ}{S B n lo base k:Nat}{r:aB}{g:FuncId}{ga gb:List AV}(d:OT σ Abs Dof doF S B n lo base k r g ga gb)
  {N0 N1 N2 N4 N5 N6 V:Nat} {i0:Int} {hd:Sl Int} {cs:Sl (Sl Int)} {ls:Sl Int} (hf:r.kH) (hk:k=(varsOf r).length) (hk12:k≤12) (hcs:cs.l.map Sl.l=r.body.l.map (fun c=>iC (varsOf r) c.args.l)) (hls:ls.l=r.body.l.map (fun c=>gZ (placesOf (varsOf r) c.args.l))) :
  ∀ (m v:Nat),v+m=k→∀ (vs:List Int) (s:σ) (h:ag) (K:Out→ag→Bool),Abs s h→base≤h.next→Cells S n k N0 N1 N2 N4 N5 N6 V base i0 r hd cs ls g ga gb h→h.get V=some (.cells (vs.map iv))→vs.length=k→gQ n vs=true →
   (∀ h',Abs (gC Dof doF n r m v vs s).2 h'→h'.get V=some (.cells ((gC Dof doF n r m v vs s).1.map iv))→(∀ b,base≤b→b<h.next→b≠V→h'.get b=h.get b)→h.next≤h'.next→K (.ret (.bool true)) h'=true) →
   Sem Tryz.prog 167 [.int .i64 (v:Int),.ptr N1 0,.ptr N2 0,.ptr N4 0,.ptr N0 0,.ptr N5 0,.ptr N6 0] h K:=by
 intro m
 induction m with
 |zero=>
  intro v hv vs s h K ha hbn hc hV hvl hvs hK
  have h1:=hc.h1
  simp only [bI] at h1
  refine F.kz ?_
  rw [F.kQ]
  simp only [aQ,Nat.reduceAdd,Nat.reduceEqDiff,reduceIte,an h1,ct,decide_eq_true (by omega:(v:Int)=(k:Int)),aC,an hc.h2,an hc.h4,callV_func]
  rw [← hvl]
  refine ak (d.run s h V vs _ ha hc.lo.2.2.2.2.2.2 hc.hi.2.2.2.2.2.2 hV hvl hvs fun h' a1 a2 a3=>?_)
  simp only [aQ,Nat.reduceAdd,Nat.reduceEqDiff,reduceIte]
  exact hK h' a1 (by rw [a2 V hc.lo.2.2.2.2.2.2 hc.hi.2.2.2.2.2.2];exact hV) (fun b b1 b2 _=>a2 b b1 b2) a3
 |succ m ih=>
  intro v hv vs s h K ha hbn hc hV hvl hvs hK
  have h1:=hc.h1
  simp only [bI] at h1
  have hS:=(d.st s h ha).1
  have n64:=d.n64
  refine F.kz ?_
  rw [F.kQ]
  simp only [aQ,Nat.reduceAdd,Nat.reduceEqDiff,reduceIte,an h1,ct,decide_eq_false (by omega:¬ (v:Int)=(k:Int)),aD,an hc.h0,bS,an hS]
  refine aE 0 n (Nat.zero_le _) (fun x e h'=>∃ acc:List Int×σ,acc=(List.range x).foldl (jM Dof n r v (gC Dof doF n r m (v+1))) (vs,s)∧Abs acc.2 h'∧h'.get V=some (.cells (acc.1.map iv))∧acc.1.length=k∧gQ n acc.1=true ∧
   (∀ b,base≤b→b<h.next→b≠V→h'.get b=h.get b)∧h.next≤h'.next∧e 0 = .int .i64 (v:Int)∧e 1 = .ptr N1 0∧e 2 = .ptr N2 0∧e 3 = .ptr N4 0∧e 4 = .ptr N0 0∧e 5 = .ptr N5 0∧e 6 = .ptr N6 0∧e 20 = .int .i64 (n:Int)∧e 21 = .int .i64 (x:Int))
   ⟨(vs,s),rfl,ha,hV,hvl,hvs,fun _ _ _ _=>rfl,Nat.le_refl _,rfl,rfl,rfl,rfl,rfl,rfl,rfl,rfl,rfl⟩ ?_ ?_
  ·rintro x e h' _ hx ⟨acc,hacc,qa,qV,ql,qin,qf,qn,e0,e1,e2,e3,e4,e5,e6,e20,e21⟩ K' hn hx' hr hp
   have hstep:(List.range (x+1)).foldl (jM Dof n r v (gC Dof doF n r m (v+1))) (vs,s)=jM Dof n r v (gC Dof doF n r m (v+1)) acc x:=by
    rw [List.range_succ,List.foldl_append,← hacc];rfl
   unfold jM at hstep
   have hc':=hc.keep qf qn
   have hst:=mV (v:=(x:Int)) qV (i:=v) (by omega)
   have hvk:v<k:=by omega
   rw [F.dy.aN]
   simp only [e0,e3,e5,e20,e21,aQ,Nat.reduceAdd,Nat.reduceEqDiff,reduceIte,bf hx,an hc'.h4,jy hvk,hst]
   have qn0:(h'.set V (.cells ((acc.1.set v (x:Int)).map iv))).next=h'.next:=ag.next_set _ _ _
   have qg:∀ b,b≠V→(h'.set V (.cells ((acc.1.set v (x:Int)).map iv))).get b=h'.get b:=fun b hb=>by rw [ag.aO,if_neg hb]
   have qV2:(h'.set V (.cells ((acc.1.set v (x:Int)).map iv))).get V=some (.cells ((acc.1.set v (x:Int)).map iv)):=by rw [ag.aO,if_pos rfl]
   generalize (h'.set V (.cells ((acc.1.set v (x:Int)).map iv)))=H at qn0 qg qV2 ⊢
   have cH:=hc'.keep (h':=H) (fun b _ _ hb=>qg b hb) (by omega)
   have lV:=hc.lo.2.2.2.2.2.2
   have aH:=d.keep _ _ H qa (by omega) (fun b hb=>qg b (by omega)) (by omega)
   obtain ⟨sS,sD,sA⟩:=d.st _ _ aH
   have hl2:(acc.1.set v (x:Int)).length=k:=by rw [List.length_set];exact ql
   have hin2:=pJ qin v hx
   generalize (acc.1.set v (x:Int))=vs2 at hstep qV2 hl2 hin2
   have c4:=cH.h4
   rw [← hl2] at c4
   simp only [an cH.h5,aQ,Nat.reduceAdd,Nat.reduceEqDiff,reduceIte,callV_func,List.nil_append,List.cons_append]
   refine ak (FH (n:=n) (B:=B) (lo:=lo) (S:=S) hf hcs hls sS sD (by have:=d.sb;omega) cH.h0 cH.hi.1 cH.h1 cH.hi.2.1 c4 cH.hi.2.2.2.1 qV2 cH.hi.2.2.2.2.2.2 (by omega) hin2 d.n1 sA fun h3 x3=>?_)
   have c3:=cH.keep (fun b _ hb _=>x3.get b hb) x3.next
   have a3:=d.keep _ _ h3 aH (by omega) (fun b hb=>x3.get b (by omega)) x3.next
   have v3:h3.get V=some (.cells (vs2.map iv)):=by rw [x3.get V cH.hi.2.2.2.2.2.2];exact qV2
   have n3:=x3.next
   have f3:∀ b,base≤b→b<h.next→b≠V→h3.get b=h.get b:=fun b b1 b2 b3=>by rw [x3.get b (by omega),qg b b3,qf b b1 b2 b3]
   simp only [aQ,Nat.reduceAdd,Nat.reduceEqDiff,reduceIte]
   cases hask:yV n (dB (Dof acc.2)) r vs2 (v:Int) with
   |false=>
    rw [hask,if_neg (by simp)] at hstep
    simp only [aD,e21,aK hx (show n≤cm by unfold cm;omega),bindO_some]
    exact hn _ _ ⟨_,hstep.symm,a3,v3,hl2,hin2,f3,by omega,e0,e1,e2,e3,e4,e5,e6,e20,rfl⟩
   |true=>
    rw [hask,if_pos rfl] at hstep
    have hv1:=aK (i:=v) (n:=13) (by omega) (by unfold cm;omega)
    simp only [aC,e0,e6,an c3.h6,aQ,Nat.reduceAdd,Nat.reduceEqDiff,reduceIte,hv1,callV_func,List.nil_append,List.cons_append]
    refine ak (ih (v+1) (by omega) vs2 acc.2 h3 _ a3 (by omega) c3 v3 hl2 hin2 fun h4 a4 v4 f4 n4=>?_)
    obtain ⟨w1,w2⟩:=FI (Dof:=Dof) (doF:=doF) (r:=r) (k:=k) m (v+1) vs2 acc.2 hl2 hin2
    simp only [aQ,Nat.reduceAdd,Nat.reduceEqDiff,reduceIte,Bool.not_true,aD,e21,aK hx (show n≤cm by unfold cm;omega)]
    exact hn _ _ ⟨_,hstep.symm,a4,v4,w1,w2,fun b b1 b2 b3=>by rw [f4 b b1 (by omega) b3,f3 b b1 b2 b3],by omega,e0,e1,e2,e3,e4,e5,e6,e20,rfl⟩
  ·rintro e h' ⟨acc,hacc,qa,qV,ql,qin,qf,qn,e0,e1,e2,e3,e4,e5,e6,e20,e21⟩ K' hx'
   rw [F.dy.aN]
   simp only [e20,e21,aQ,Nat.reduceAdd,Nat.reduceEqDiff,reduceIte,aT]
   rw [hx',F.dy.aG]
   have:gC Dof doF n r (m+1) v vs s=acc:=hacc.symm
   rw [this] at hK
   exact hK h' qa qV qf qn
end
end Go.AM
namespace Go.AM
open Go Go.Proofs
noncomputable section
def vr{σ:Type}(Dof:σ→bC→Option (Nat×List Bool))(doF:List Int→σ→σ)(n:Nat)(r:aB)(k:Nat)(s:σ):σ:=
 if yV n (dB (Dof s)) r (List.replicate k 0) (-1)=true then (gC Dof doF n r k 0 (List.replicate k 0) s).2 else s
theorem CO(i:Int)(r:aB)(n:Int)(hd:Sl Int)(cs:Sl (Sl Int))(ls:Sl Int):br (bI i r n (aq encI 1 hd) (aq eE 1 cs) (aq encI 1 ls))=true:=by
 unfold bI
 simp only [br,jm,Bool.and_true];rfl
theorem zw{n:Nat}(h:1≤n)(k:Nat):gQ n (List.replicate k (0:Int))=true:=by
 unfold gQ;rw [List.all_eq_true]
 intro x hx
 rw [(List.mem_replicate.1 hx).2]
 simp;omega
set_option maxHeartbeats 1000000 in
theorem G8{σ:Type}{Abs:σ→ag→Prop}{Dof:σ→bC→Option (Nat×List Bool)}{doF:List Int→σ→σ}{S B n lo base k:Nat}{r:aB}{g:FuncId}{ga gb:List AV}(d:OT σ Abs Dof doF S B n lo base k r g ga gb)
  {i0:Int} {hd:Sl Int} {cs:Sl (Sl Int)} {ls:Sl Int} (hf:r.kH) (hk:k=(varsOf r).length) (hk12:k≤12) (hcs:cs.l.map Sl.l=r.body.l.map (fun c=>iC (varsOf r) c.args.l)) (hls:ls.l=r.body.l.map (fun c=>gZ (placesOf (varsOf r) c.args.l)))
  {s:σ} {h:ag} {K:Out→ag→Bool} (ha:Abs s h) (hbn:base≤h.next)
  (hK:∀ h',Abs (vr Dof doF n r k s) h'→(∀ b,base≤b→b<h.next→h'.get b=h.get b)→h.next≤h'.next→K (.ret (.tuple [])) h'=true) :
  Sem Tryz.prog 122 [.ptr S 0,.agg (bI i0 r k (aq encI 1 hd) (aq eE 1 cs) (aq encI 1 ls)),.func g ga gb] h K:=by
 refine F.qX ?_
 rw [F.sW]
 simp only [oY (x:=.ptr S 0) rfl,cA (CO i0 r k hd cs ls),oY (x:=.func g ga gb) rfl,bindO_some,ag.next_alloc]
 have g0:(((h.alloc (.cells [.ptr S 0])).alloc (.cells (bI i0 r k (aq encI 1 hd) (aq eE 1 cs) (aq encI 1 ls)))).alloc (.cells [.func g ga gb])).get h.next=some (.cells [.ptr S 0]):=by
  rw [ag.aV,ag.next_alloc,ag.next_alloc,if_neg (by omega),ag.aV,ag.next_alloc,if_neg (by omega)];exact aI _ _
 have g1:(((h.alloc (.cells [.ptr S 0])).alloc (.cells (bI i0 r k (aq encI 1 hd) (aq eE 1 cs) (aq encI 1 ls)))).alloc (.cells [.func g ga gb])).get (h.next+1)=some (.cells (bI i0 r k (aq encI 1 hd) (aq eE 1 cs) (aq encI 1 ls))):=by
  rw [ag.aV,ag.next_alloc,ag.next_alloc,if_neg (by omega)];exact aI _ _
 have g2:(((h.alloc (.cells [.ptr S 0])).alloc (.cells (bI i0 r k (aq encI 1 hd) (aq eE 1 cs) (aq encI 1 ls)))).alloc (.cells [.func g ga gb])).get (h.next+1+1)=some (.cells [.func g ga gb]):=aI _ _
 have gx:bR h (((h.alloc (.cells [.ptr S 0])).alloc (.cells (bI i0 r k (aq encI 1 hd) (aq eE 1 cs) (aq encI 1 ls)))).alloc (.cells [.func g ga gb])):=((bR.alloc _ _).trans (bR.alloc _ _)).trans (bR.alloc _ _)
 have gn:(((h.alloc (.cells [.ptr S 0])).alloc (.cells (bI i0 r k (aq encI 1 hd) (aq eE 1 cs) (aq encI 1 ls)))).alloc (.cells [.func g ga gb])).next=h.next+3:=rfl
 generalize (((h.alloc (.cells [.ptr S 0])).alloc (.cells (bI i0 r k (aq encI 1 hd) (aq eE 1 cs) (aq encI 1 ls)))).alloc (.cells [.func g ga gb]))=H3 at g0 g1 g2 gx gn ⊢
 have g1':=g1
 simp only [bI] at g1'
 simp only [aQ,Nat.reduceAdd,Nat.reduceEqDiff,reduceIte,an g1',sr (show k≤1000000 by omega)]
 have v6:=aI H3 (.cells ((List.replicate k (0:Int)).map iv))
 have x6:=bR.alloc H3 (.cells ((List.replicate k (0:Int)).map iv))
 have n6:(H3.alloc (.cells ((List.replicate k (0:Int)).map iv))).next=H3.next+1:=ag.next_alloc _ _
 generalize (H3.alloc (.cells ((List.replicate k (0:Int)).map iv)))=H6 at v6 x6 n6 ⊢
 obtain ⟨h7,s7,a7,o7,n7⟩:=lu (h:=H6) (z:=.nils) (v:=.slice H3.next 0 k 1) rfl rfl
 obtain ⟨h8,s8,a8,o8,n8⟩:=lu (h:=h7) (z:=.nilf) (v:=.func 166 [] [.ptr (h.next+1) 0,.ptr h.next 0,.ptr H6.next 0]) rfl rfl
 obtain ⟨h9,s9,a9,o9,n9⟩:=lu (h:=h8) (z:=.nilf) (v:=.func 167 [] [.ptr (h.next+1) 0,.ptr (h.next+1+1) 0,.ptr H6.next 0,.ptr h.next 0,.ptr h7.next 0,.ptr h8.next 0]) rfl rfl
 simp only [s7,s8,s9,bindO_some]
 have low:∀ b,b<H6.next→h9.get b=H6.get b:=fun b hb=>by rw [o9 b (by omega),o8 b (by omega),o7 b (by omega)]
 have c:Cells S n k h.next (h.next+1) (h.next+1+1) H6.next h7.next h8.next H3.next base i0 r hd cs ls g ga gb h9:=
  ⟨by rw [low _ (by omega),x6.get _ (by omega)];exact g0,by rw [low _ (by omega),x6.get _ (by omega)];exact g1,by rw [low _ (by omega),x6.get _ (by omega)];exact g2,
   by rw [o9 _ (by omega),o8 _ (by omega)];exact a7,by rw [o9 _ (by omega)];exact a8,a9,
   ⟨by omega,by omega,by omega,by omega,by omega,by omega,by omega⟩,⟨by omega,by omega,by omega,by omega,by omega,by omega,by omega⟩,⟨by omega,by omega,by omega,by omega,by omega,by omega⟩⟩
 have x9:bR h h9:=⟨by omega,fun b hb=>by rw [low b (by omega),x6.get b (by omega),gx.get b hb]⟩
 have v9:h9.get H3.next=some (.cells ((List.replicate k (0:Int)).map iv)):=by rw [low _ (by omega)];exact v6
 have a9':=d.keep _ _ h9 ha hbn (fun b hb=>x9.get b (by omega)) x9.next
 have hl0:(List.replicate k (0:Int)).length=k:=List.length_replicate
 have hin0:=zw d.n1 k
 obtain ⟨sS,sD,sA⟩:=d.st _ _ a9'
 have c4:=c.h4
 rw [← hl0] at c4
 generalize hvs:List.replicate k (0:Int)=vs0 at v9 hl0 hin0 c4
 have heF:vr Dof doF n r k s=if yV n (dB (Dof s)) r vs0 (-1)=true then (gC Dof doF n r k 0 vs0 s).2 else s:=by unfold vr;rw [hvs]
 simp only [aQ,Nat.reduceAdd,Nat.reduceEqDiff,reduceIte,an c.h5,callV_func,List.nil_append,List.cons_append]
 refine ak (FH (n:=n) (B:=B) (lo:=lo) (S:=S) hf hcs hls sS sD (by have:=d.sb;have:=x9.next;omega) c.h0 c.hi.1 c.h1 c.hi.2.1 c4 c.hi.2.2.2.1 v9 c.hi.2.2.2.2.2.2 (by omega) hin0 d.n1 sA fun h10 x10=>?_)
 have n10:=x10.next
 have c10:=c.keep (fun b _ hb _=>x10.get b hb) n10
 have a10:=d.keep _ _ h10 a9' (by have:=x9.next;omega) (fun b hb=>x10.get b (by have:=x9.next;omega)) n10
 have v10:h10.get H3.next=some (.cells (vs0.map iv)):=by rw [x10.get _ c.hi.2.2.2.2.2.2];exact v9
 simp only [aQ,Nat.reduceAdd,Nat.reduceEqDiff,reduceIte]
 cases hask:yV n (dB (Dof s)) r vs0 (-1) with
 |false=>
  rw [hask,if_neg (by simp)] at heF
  rw [heF] at hK
  simp only [aD]
  exact hK h10 a10 (fun b _ b2=>(x9.trans x10).get b b2) (x9.trans x10).next
 |true=>
  rw [hask,if_pos rfl] at heF
  rw [heF] at hK
  simp only [aC,aQ,Nat.reduceAdd,Nat.reduceEqDiff,reduceIte,an c10.h6,callV_func,List.nil_append,List.cons_append]
  refine ak (I7 d hf hk hk12 hcs hls k 0 (by omega) vs0 s h10 _ a10 (by have:=x9.next;omega) c10 v10 hl0 hin0 fun h11 a11 v11 f11 n11=>?_)
  simp only [aQ,Nat.reduceAdd,Nat.reduceEqDiff,reduceIte]
  exact hK h11 a11 (fun b b1 b2=>by rw [f11 b b1 (by have:=x9.next;omega) (by omega),(x9.trans x10).get b b2]) (by have:=x9.next;omega)
end
end Go.AM
namespace Go.AM
open Go Go.Proofs
noncomputable section
abbrev DB:=bC→Option (Nat×List Bool)
def eu(D D0:DB):Prop:=∀ nm,(D nm).map (fun p=>(p.1,p.2.length))=(D0 nm).map (fun p=>(p.1,p.2.length))
theorem eu.get{D D0:DB}(h:eu D D0){nm:bC}{p0:Nat×List Bool}(h0:D0 nm=some p0):∃ p,D nm=some p∧p.1=p0.1∧p.2.length=p0.2.length:=by
 have:=h nm
 rw [h0] at this
 cases hd:D nm with
 |none=>rw [hd] at this;cases this
 |some p=>
  rw [hd] at this
  simp only [Option.map_some,Option.some.injEq,Prod.mk.injEq] at this
  exact ⟨p,rfl,this.1,this.2⟩
theorem eu.back{D D0:DB}(h:eu D D0){nm:bC}{p:Nat×List Bool}(hp:D nm=some p):∃ p0,D0 nm=some p0∧p.1=p0.1∧p.2.length=p0.2.length:=by
 have:=h nm
 rw [hp] at this
 cases hd:D0 nm with
 |none=>rw [hd] at this;cases this
 |some p0=>
  rw [hd] at this
  simp only [Option.map_some,Option.some.injEq,Prod.mk.injEq] at this
  exact ⟨p0,rfl,this.1,this.2⟩
theorem eu.set{D D0:DB}(h:eu D D0){nm:bC}{p:Nat×List Bool}(hp:D nm=some p){d:List Bool}(hd:d.length=p.2.length):eu (jL D nm p.1 d) D0:=fun j=>by
 rw [← h j]
 unfold jL
 by_cases e:j=nm
 ·rw [if_pos e,e,hp,Option.map_some,Option.map_some,hd]
 ·rw [if_neg e]
def qy(n:Nat)(r:aB)(vs:List Int)(s:DB×Bool):DB×Bool:=
 match s.1 r.name with
 |none=>s
 |some p=>if p.2.getD (gY n (aR vs (placesOf (varsOf r) r.args.l))) false=true then s else (jL s.1 r.name p.1 (p.2.set (gY n (aR vs (placesOf (varsOf r) r.args.l))) true),true)
structure m7 (S B n lo base P3 P5 P6 PL:Nat) (D0:DB) (r:aB) (i0:Int) (k:Nat) (hd:Sl Int) (cs:Sl (Sl Int)) (ls:Sl Int) (ng:FuncId) (na nb:List AV) (h0:ag) (s:DB×Bool) (h:ag):Prop where
 hS:h.get S=some (.cells [.int .i64 (n:Int),.map B])
 hD:ef s.1 h B lo
 Jm:eu s.1 D0
 h3:h.get P3=some (.cells [.ptr S 0])
 h5:h.get P5=some (.cells [.func ng na nb])
 h6:h.get P6=some (.cells [.bool s.2])
 hL:h.get PL=some (.cells (bI i0 r k (aq encI 1 hd) (aq eE 1 cs) (aq encI 1 ls)))
 lt:base≤h.next
 old:∀ b,b<base→b≠P6→(∀ nm p,D0 nm=some p→b≠p.1)→h.get b=h0.get b
structure Im (S B n lo base P3 P5 P6 PL:Nat) (D0:DB) (r:aB) (k:Nat) (hd:Sl Int) (ng:FuncId) (na nb:List AV):Prop where
 n1:1≤n
 n64:n≤64
 low:S<base∧B<base∧P3<base∧P5<base∧P6<base∧PL<base
 rows:∀ nm p,D0 nm=some p→p.1<base∧p.1≠S∧p.1≠P3∧p.1≠P5∧p.1≠P6∧p.1≠PL
 six:P6≠S∧P6≠B∧P6≠P3∧P6≠P5∧P6≠PL
 ask:∀ D,eu D D0→Bc n D r
 head:n ^ r.args.l.length≤4096∧r.args.l.length≤12∧∃ p,D0 r.name=some p∧p.2.length=n ^ r.args.l.length
 hkk:k=(varsOf r).length
 hhd:hd.l=iC (varsOf r) r.args.l
 note:∀ (i:Int) (r:aB) (k:Int) (hd:Sl Int) (cs:Sl (Sl Int)) (ls:Sl Int) (y:AV) (h:ag) (K:Out→ag→Bool),(∀ h',bR h h'→K (.ret (.tuple [])) h'=true)→Sem Tryz.prog ng (na++([.agg (bI i r k (aq encI 1 hd) (aq eE 1 cs) (aq encI 1 ls)),y]++nb)) h K
theorem m7.keep{S B n lo base P3 P5 P6 PL:Nat}{D0:DB}{r:aB}{i0:Int}{k:Nat}{hd:Sl Int}{cs:Sl (Sl Int)}{ls:Sl Int}{ng:FuncId}{na nb:List AV}{h0:ag}(o:Im S B n lo base P3 P5 P6 PL D0 r k hd ng na nb){s:DB×Bool}{h h':ag}
  (a:m7 S B n lo base P3 P5 P6 PL D0 r i0 k hd cs ls ng na nb h0 s h) (hb:∀ b,b<base→h'.get b=h.get b) (hn:h.next≤h'.next):m7 S B n lo base P3 P5 P6 PL D0 r i0 k hd cs ls ng na nb h0 s h':=by
 obtain ⟨l1,l2,l3,l4,l5,l6⟩:=o.low
 refine ⟨by rw [hb _ l1];exact a.hS,?_,a.Jm,by rw [hb _ l3];exact a.h3,by rw [hb _ l4];exact a.h5,by rw [hb _ l5];exact a.h6,by rw [hb _ l6];exact a.hL,Nat.le_trans a.lt hn,fun b b1 b2 b3=>by rw [hb b b1];exact a.old b b1 b2 b3⟩
 obtain ⟨es,ck,m,e1,e2,e3⟩:=a.hD.ex
 refine ⟨⟨es,ck,m,by rw [hb _ l2];exact e1,e2,e3⟩,fun nm p hp=>?_,a.hD.inj,Nat.lt_of_lt_of_le a.hD.lt hn⟩
 obtain ⟨q1,q2,q3,q4⟩:=a.hD.blk nm p hp
 obtain ⟨p0,r1,r2,_⟩:=a.Jm.back hp
 have:=(o.rows nm p0 r1).1
 exact ⟨q1,Nat.lt_of_lt_of_le q2 hn,q3,by rw [hb _ (by omega)];exact q4⟩
set_option maxHeartbeats 1000000 in
theorem KU{S B n lo base P3 P5 P6 PL:Nat}{D0:DB}{r:aB}{i0:Int}{k:Nat}{hd:Sl Int}{cs:Sl (Sl Int)}{ls:Sl Int}{ng:FuncId}{na nb:List AV}{h0:ag}(o:Im S B n lo base P3 P5 P6 PL D0 r k hd ng na nb){s:DB×Bool}{h:ag}{V:Nat}{vs:List Int}{K:Out→ag→Bool}
  (a:m7 S B n lo base P3 P5 P6 PL D0 r i0 k hd cs ls ng na nb h0 s h) (hVb:base≤V) (hVn:V<h.next) (hV:h.get V=some (.cells (vs.map iv))) (hvl:vs.length=k) (hvs:gQ n vs=true)
  (hK:∀ h',m7 S B n lo base P3 P5 P6 PL D0 r i0 k hd cs ls ng na nb h0 (qy n r vs s) h'→(∀ b,base≤b→b<h.next→h'.get b=h.get b)→h.next≤h'.next→K (.ret (.bool true)) h'=true) :
  Sem Tryz.prog 158 ([]++([.slice V 0 vs.length 1]++[.ptr PL 0,.ptr P3 0,.ptr P6 0,.ptr P5 0])) h K:=by
 obtain ⟨l1,l2,l3,l4,l5,l6⟩:=o.low
 obtain ⟨hpow,h12,p0,hp0,hp0l⟩:=o.head
 have hL:=a.hL
 simp only [bI] at hL
 simp only [List.nil_append,List.cons_append]
 refine F.oh ?_
 rw [F.pE]
 simp only [aQ,Nat.reduceAdd,Nat.reduceEqDiff,reduceIte,an hL]
 have hpl:∀ p ∈ placesOf (varsOf r) r.args.l,p<vs.length:=by rw [hvl,o.hkk];exact ir iM
 have hplen:(placesOf (varsOf r) r.args.l).length=r.args.l.length:=by unfold placesOf;simp
 refine ak (Ij (ps:=placesOf (varsOf r) r.args.l) hV hVn rfl o.hhd hpl (by rw [hplen];omega) fun h3 t1 x3 t2=>?_)
 have lt0:=a.lt
 have a3:=m7.keep o a (fun b hb=>x3.get b (by omega)) x3.next
 obtain ⟨p,hp,hpb,hplen2⟩:=a3.Jm.get hp0
 have hL3:=a3.hL
 simp only [bI] at hL3
 have hvlen:=fV vs (placesOf (varsOf r) r.args.l)
 have hin:=iN hvs hpl
 rw [← hvlen]
 have hdo:qy n r vs s=if p.2.getD (gY n (aR vs (placesOf (varsOf r) r.args.l))) false=true then s else (jL s.1 r.name p.1 (p.2.set (gY n (aR vs (placesOf (varsOf r) r.args.l))) true),true):=by unfold qy;rw [hp]
 have hrk:gY n (aR vs (placesOf (varsOf r) r.args.l))<p.2.length:=by
  have:=lC hin
  rw [hvlen,hplen] at this
  omega
 have hbit:p.2[gY n (aR vs (placesOf (varsOf r) r.args.l))]?=some (p.2.getD (gY n (aR vs (placesOf (varsOf r) r.args.l))) false):=by rw [List.getD_eq_getElem?_getD,List.getElem?_eq_getElem hrk];rfl
 obtain ⟨b1,b2,b3,b4⟩:=a3.hD.blk r.name p hp
 have hrank:∀ {K:Out→ag→Bool},K (.ret (.int .i64 ((gY n (aR vs (placesOf (varsOf r) r.args.l)):Nat):Int))) h3=true→Sem Tryz.prog 69 [.ptr S 0,.slice h.next 0 (aR vs (placesOf (varsOf r) r.args.l)).length 1] h3 K:=fun hk=>xS a3.hS o.n1 t1 (by rw [hvlen,hplen];exact h12) (by rw [hvlen,hplen];exact hpow) hin hk
 generalize gY n (aR vs (placesOf (varsOf r) r.args.l))=rk at hdo hrk hbit hrank
 simp only [aQ,Nat.reduceAdd,Nat.reduceEqDiff,reduceIte,an a3.h3,bS,an a3.hS,an hL3,a3.hD.look hp]
 refine ak (hrank ?_)
 simp only [aQ,Nat.reduceAdd,Nat.reduceEqDiff,reduceIte,jy hrk,zq b4 hbit]
 cases hbv:p.2.getD rk false with
 |true=>
  rw [hbv,if_pos rfl] at hdo
  simp only [Bool.not_true,aD]
  rw [hdo] at hK
  exact hK h3 a3 (fun b _ b2=>x3.get b b2) x3.next
 |false=>
  rw [hbv,if_neg (by simp)] at hdo
  simp only [Bool.not_false,aC,an a3.h3,aQ,Nat.reduceAdd,Nat.reduceEqDiff,reduceIte]
  refine ak (hrank ?_)
  obtain ⟨w1,w2,w3,w4,w5,w6⟩:=o.rows r.name p0 hp0
  rw [← hpb] at w1 w2 w3 w4 w5 w6
  obtain ⟨y1,y2,y3,y4,y5⟩:=o.six
  have hset:=a3.hD.set hp (d:=p.2.set rk true) (by simp)
  have st1:=rB (v:=true) b4 hrk
  have g6:(h3.set p.1 (.cells ((p.2.set rk true).map bv))).get P6=some (.cells [.bool s.2]):=by rw [ag.aO,if_neg (Ne.symm w5)];exact a3.h6
  have st2:bL 1 (.ptr P6 0) (.bool true) (h3.set p.1 (.cells ((p.2.set rk true).map bv)))=some ((h3.set p.1 (.cells ((p.2.set rk true).map bv))).set P6 (.cells [.bool true])):=by
   rw [dV (n:=1) g6 rfl rfl (by simp)];rfl
  have q:∀ b,b≠p.1→b≠P6→((h3.set p.1 (.cells ((p.2.set rk true).map bv))).set P6 (.cells [.bool true])).get b=h3.get b:=fun b hb1 hb2=>by rw [ag.aO,if_neg hb2,ag.aO,if_neg hb1]
  have q6:((h3.set p.1 (.cells ((p.2.set rk true).map bv))).set P6 (.cells [.bool true])).get P6=some (.cells [.bool true]):=by rw [ag.aO,if_pos rfl]
  have qn:((h3.set p.1 (.cells ((p.2.set rk true).map bv))).set P6 (.cells [.bool true])).next=h3.next:=by rw [ag.next_set,ag.next_set]
  have hD':ef (jL s.1 r.name p.1 (p.2.set rk true)) ((h3.set p.1 (.cells ((p.2.set rk true).map bv))).set P6 (.cells [.bool true])) B lo:=by
   obtain ⟨es,ck,m,e1,e2,e3⟩:=hset.ex
   refine ⟨⟨es,ck,m,by rw [ag.aO,if_neg (Ne.symm y2)];exact e1,e2,e3⟩,fun nm p' hp'=>?_,hset.inj,by rw [ag.next_set];exact hset.lt⟩
   obtain ⟨c1,c2,c3,c4⟩:=hset.blk nm p' hp'
   obtain ⟨p0',d1,d2,_⟩:=(a3.Jm.set hp (d:=p.2.set rk true) (by simp)).back hp'
   have:=(o.rows nm p0' d1).2.2.2.2.1
   exact ⟨c1,by rw [ag.next_set];exact c2,c3,by rw [ag.aO,if_neg (by rw [d2];exact this)];exact c4⟩
  simp only [aQ,Nat.reduceAdd,Nat.reduceEqDiff,reduceIte,jy hrk,st1,st2]
  generalize ((h3.set p.1 (.cells ((p.2.set rk true).map bv))).set P6 (.cells [.bool true]))=H at q q6 qn hD' ⊢
  have aH:m7 S B n lo base P3 P5 P6 PL D0 r i0 k hd cs ls ng na nb h0 (qy n r vs s) H:=by
   rw [hdo]
   exact ⟨by rw [q S (Ne.symm w2) (Ne.symm y1)];exact a3.hS,hD',a3.Jm.set hp (by simp),by rw [q P3 (Ne.symm w3) (Ne.symm y3)];exact a3.h3,by rw [q P5 (Ne.symm w4) (Ne.symm y4)];exact a3.h5,q6,by rw [q PL (Ne.symm w6) (Ne.symm y5)];exact a3.hL,by rw [qn];exact a3.lt,fun b b1 b2 b3=>by rw [q b (by rw [hpb];exact b3 _ _ hp0) b2];exact a3.old b b1 b2 b3⟩
  have hLH:=aH.hL
  simp only [bI] at hLH
  simp only [an aH.h5,an hLH,Il,aQ,Nat.reduceAdd,Nat.reduceEqDiff,reduceIte,callV_func]
  refine ak (o.note i0 r k hd cs ls _ H _ fun h9 x9=>?_)
  simp only [aQ,Nat.reduceAdd,Nat.reduceEqDiff,reduceIte]
  have ltH:=aH.lt
  have n9:=x9.next
  exact hK h9 (m7.keep o aH (fun b hb=>x9.get b (by omega)) n9) (fun b b1 b2=>by have:=x3.next;rw [x9.get b (by omega),q b (by omega) (by omega),x3.get b b2]) (by have:=x3.next;omega)
theorem G9{S B n lo base P3 P5 P6 PL:Nat}{D0:DB}{r:aB}{i0:Int}{k:Nat}{hd:Sl Int}{cs:Sl (Sl Int)}{ls:Sl Int}{ng:FuncId}{na nb:List AV}{h0:ag}(o:Im S B n lo base P3 P5 P6 PL D0 r k hd ng na nb) :
  OT (DB×Bool) (m7 S B n lo base P3 P5 P6 PL D0 r i0 k hd cs ls ng na nb h0) (fun s=>s.1) (qy n r) S B n lo base k r 158 [] [.ptr PL 0,.ptr P3 0,.ptr P6 0,.ptr P5 0]:=
 ⟨o.n1,o.n64,o.low.1,fun s h a=>⟨a.hS,a.hD,o.ask _ a.Jm⟩,fun s h h' a _ hb hn=>m7.keep o a hb hn,fun s h V vs K a h1 h2 h3 h4 h5 hK=>KU o a h1 h2 h3 h4 h5 hK⟩
end
end Go.AM
namespace Go.AM
open Go Go.Proofs
noncomputable section
theorem Bd{σ:Type}{Dof:σ→DB}{doF:List Int→σ→σ}{n:Nat}{r:aB}{k:Nat}{Q:σ→Prop}(hQ:∀ vs s,vs.length=k→gQ n vs=true→Q s→Q (doF vs s)):∀ (m v:Nat) (vs:List Int) (s:σ),vs.length=k→gQ n vs=true→Q s →
  ((gC Dof doF n r m v vs s).1.length=k∧gQ n (gC Dof doF n r m v vs s).1=true)∧Q (gC Dof doF n r m v vs s).2
 |0,v,vs,s,h1,h2,h3=>⟨⟨h1,h2⟩,hQ vs s h1 h2 h3⟩
 |m+1,v,vs,s,h1,h2,h3=>by
  refine fo (P:=fun (a:List Int×σ)=>(a.1.length=k∧gQ n a.1=true)∧Q a.2) ⟨⟨h1,h2⟩,h3⟩ fun a x hx ha=>?_
  have hxn:=List.mem_range.1 hx
  have h3:(a.1.set v (x:Int)).length=k:=by rw [List.length_set];exact ha.1.1
  have h4:=pJ ha.1.2 v hxn
  unfold jM
  split
  ·exact Bd hQ m (v+1) _ _ h3 h4 ha.2
  ·exact ⟨⟨h3,h4⟩,ha.2⟩
theorem pK{σ:Type}{Dof:σ→DB}{doF:List Int→σ→σ}{n:Nat}{r:aB}{k:Nat}{Q:σ→Prop}(n1:1≤n)(hQ:∀ vs s,vs.length=k→gQ n vs=true→Q s→Q (doF vs s)){s:σ}(hs:Q s):Q (vr Dof doF n r k s):=by
 unfold vr
 split
 ·exact (Bd hQ k 0 _ _ List.length_replicate (zw n1 k) hs).2
 ·exact hs
structure vt where
 i:Int
 r:aB
 hd:Sl Int
 cs:Sl (Sl Int)
 ls:Sl Int
def rD(p:vt):List AV:=bI p.i p.r (varsOf p.r).length (aq encI 1 p.hd) (aq eE 1 p.cs) (aq encI 1 p.ls)
theorem CP(p:vt):(rD p).length=8:=rfl
theorem CQ(p:vt):br (rD p)=true:=CO _ _ _ _ _ _
structure vt.ok (p:vt):Prop where
 kH:p.r.kH
 k12:(varsOf p.r).length≤12
 hd:p.hd.l=iC (varsOf p.r) p.r.args.l
 cs:p.cs.l.map Sl.l=p.r.body.l.map (fun c=>iC (varsOf p.r) c.args.l)
 ls:p.ls.l=p.r.body.l.map (fun c=>gZ (placesOf (varsOf p.r) c.args.l))
def jE(n:Nat)(r:aB)(s:DB×Bool):DB×Bool:=vr (fun s=>s.1) (qy n r) n r (varsOf r).length s
def kF(n:Nat)(rs:List aB)(s:DB×Bool):DB×Bool:=rs.foldl (fun s r=>jE n r s) s
theorem He{n:Nat}{rs:List aB}{i:Nat}{r:aB}(hr:rs[i]?=some r)(s:DB×Bool):kF n (rs.take (i+1)) s=jE n r (kF n (rs.take i) s):=by
 unfold kF;rw [List.take_add_one,hr];simp
inductive Reach (n:Nat) (rs:List aB) (D0:DB):DB→Prop
 |refl:Reach n rs D0 D0
 |step (D:DB):Reach n rs D0 D→Reach n rs D0 (kF n rs (D,false)).1
theorem zx:∀ (l:List Bool) (i:Nat),l[i]?=some false→(l.set i true).count false<l.count false
 |[],i,h=>by simp at h
 |b :: l,0,h=>by
  simp only [List.getElem?_cons_zero,Option.some.injEq] at h
  subst h;simp
 |b :: l,i+1,h=>by
  rw [List.getElem?_cons_succ] at h
  have:=zx l i h
  rw [List.set_cons_succ,List.count_cons,List.count_cons];omega
def OU(D:DB)(nm:bC):Nat:=match D nm with|none=>0|some p=>p.2.count false
def Be(names:List bC)(D:DB):Nat:=(names.map (OU D)).sum
structure FJ (names:List bC) (D0 D:DB) (s:DB×Bool):Prop where
 Jm:eu s.1 D0
 le:Be names s.1≤Be names D
 lt:s.2=true→Be names s.1<Be names D
 same:s.2=false→s.1=D
theorem KV{names:List bC}{D0 D:DB}{n:Nat}{r:aB}{k:Nat}(hin:r.name ∈ names)(hk:k=(varsOf r).length)(hh:∃ p,D0 r.name=some p∧p.2.length=n ^ r.args.l.length){vs:List Int}{s:DB×Bool}(hvl:vs.length=k)(hvs:gQ n vs=true)(q:FJ names D0 D s):FJ names D0 D (qy n r vs s):=by
 obtain ⟨p0,hp0,hl0⟩:=hh
 obtain ⟨p,hp,_,hl⟩:=q.Jm.get hp0
 have hpl:∀ p ∈ placesOf (varsOf r) r.args.l,p<vs.length:=by rw [hvl,hk];exact ir iM
 have hplen:(placesOf (varsOf r) r.args.l).length=r.args.l.length:=by unfold placesOf;simp
 have hrk:gY n (aR vs (placesOf (varsOf r) r.args.l))<p.2.length:=by
  have:=lC (iN hvs hpl)
  rw [fV,hplen] at this
  omega
 have hdo:qy n r vs s=if p.2.getD (gY n (aR vs (placesOf (varsOf r) r.args.l))) false=true then s else (jL s.1 r.name p.1 (p.2.set (gY n (aR vs (placesOf (varsOf r) r.args.l))) true),true):=by unfold qy;rw [hp]
 rw [hdo]
 generalize gY n (aR vs (placesOf (varsOf r) r.args.l))=rk at hrk ⊢
 split
 ·exact q
 ·rename_i hb
  have hbit:p.2[rk]?=some false:=by
   rw [List.getD_eq_getElem?_getD,List.getElem?_eq_getElem hrk] at hb
   rw [List.getElem?_eq_getElem hrk]
   simp only [Option.getD_some,Bool.not_eq_true] at hb
   rw [hb]
  have hlt:Be names (jL s.1 r.name p.1 (p.2.set rk true))<Be names s.1:=by
   refine Lev.Gv (fun nm=>?_) (t:=r.name) ?_ hin
   ·unfold OU jL
    by_cases e:nm=r.name
    ·subst e;rw [if_pos rfl,hp];exact Nat.le_of_lt (zx _ _ hbit)
    ·rw [if_neg e];exact Nat.le_refl _
   ·unfold OU jL
    rw [if_pos rfl,hp];exact zx _ _ hbit
  have:=q.le
  exact ⟨q.Jm.set hp (by simp),by show Be names (jL s.1 r.name p.1 (p.2.set rk true))≤_;omega,fun _=>by show Be names (jL s.1 r.name p.1 (p.2.set rk true))<_;omega,fun h=>by cases h⟩
theorem FK{names:List bC}{D0 D:DB}{n:Nat}{r:aB}(n1:1≤n)(hin:r.name ∈ names)(hh:∃ p,D0 r.name=some p∧p.2.length=n ^ r.args.l.length){s:DB×Bool}(q:FJ names D0 D s):FJ names D0 D (jE n r s):=
 pK n1 (fun vs s h1 h2 h3=>KV hin rfl hh h1 h2 h3) q
end
end Go.AM
namespace Go.AM
open Go Go.Proofs
noncomputable section
theorem xU(nm:bC)(xs:List bC):kS nm xs=(ec nm&&kE xs):=by
 unfold kS kE;rw [Bool.and_comm (xs.all ec)]
def iP(r:aB):Bool:=ec r.name&&(kE r.args.l&&(decide (r.body.l.length≤20)&&(r.body.l.all fT&&decide ((varsOf r).length≤12))))
theorem cE{r:aB}(hok:r.ok)(hf:r.kH){h:ag}{K:Out→ag→Bool}(hK:K (.ret (.bool (iP r))) h=true) :
  Sem Tryz.prog 84 [.agg [.str r.name,aq encS 1 r.args,aq bO 4 r.body]] h K:=by
 refine Sem.data (r:=.bool (iP r)) ?_ (by have:=dR r;simpa [aL,AV.pureL,AV.pure] using this) hK
 clear hK
 have hbb:r.body.l.length≤cm:=hok.2.2.2.1
 refine F.Av ?_
 rw [F.BX]
 have g0:(ag.alloc ag.empty (.cells (aL r))).get 0=some (.cells (aL r)):=aI _ _
 have gn:(ag.alloc ag.empty (.cells (aL r))).next=1:=rfl
 have hb:ew (.agg [.str r.name,aq encS 1 r.args,aq bO 4 r.body])=some (aL r):=cA (ij r)
 simp only [hb,bindO_some,bp]
 generalize (ag.alloc ag.empty (.cells (aL r)))=H at g0 gn ⊢
 have fin:∀ (b:Bool) h',b=iP r→mS (.bool (iP r)) (.ret (.bool b)) h'=true:=fun b h' hb=>by rw [hb];exact cK rfl
 generalize mS (.bool (iP r))=R at fin ⊢
 simp only [aQ,Nat.reduceAdd,Nat.reduceEqDiff,reduceIte,an g0,aL]
 refine ak (ee ?_)
 simp only [aQ,Nat.reduceAdd,Nat.reduceEqDiff,reduceIte]
 cases hn:ec r.name with
 |false=>simp only [Bool.not_false,aC];exact fin _ _ (by simp [iP,hn])
 |true=>
 simp only [Bool.not_true,aD,aQ,Nat.reduceAdd,Nat.reduceEqDiff,reduceIte,an g0,aL]
 refine ak (dM hok.2.1 ?_)
 simp only [aQ,Nat.reduceAdd,Nat.reduceEqDiff,reduceIte]
 cases hnd:kE r.args.l with
 |false=>simp only [Bool.not_false,aC];exact fin _ _ (by simp [iP,hnd])
 |true=>
 simp only [Bool.not_true,aD,aQ,Nat.reduceAdd,Nat.reduceEqDiff,reduceIte,an g0,aL]
 by_cases h20:20<r.body.l.length
 ·simp only [decide_eq_true (by omega:(20:Int)<(r.body.l.length:Int)),aC]
  exact fin _ _ (by simp [iP,show ¬ r.body.l.length≤20 by omega])
 simp only [decide_eq_false (by omega:¬ (20:Int)<(r.body.l.length:Int)),aD]
 have h20':r.body.l.length≤20:=by omega
 refine aE 0 r.body.l.length (Nat.zero_le _) (fun i e h'=>bR H h'∧e 1 = .ptr 0 0∧e 3 = .int .i64 (i:Int)∧(r.body.l.take i).all fT=true) ⟨bR.refl _,rfl,rfl,rfl⟩ ?_ ?_
 ·rintro i e h' _ hi ⟨x1,e1,e3,ht⟩ K' hnn hx hr hp
  have hv:r.body.l[i]?=some r.body.l[i]:=List.getElem?_eq_getElem hi
  generalize r.body.l[i]=c at hv
  have hcok:=hok.2.2.2.2 c (List.mem_of_getElem? hv)
  have q0:h'.get 0=some (.cells (aL r)):=by rw [x1.get 0 (by omega)];exact g0
  obtain ⟨H2,hs2,k1,ko,kn⟩:=cL (h:=h') (zs:=[.int .i64 0,.bool false,.str [],.nils]) (cs:=bO c) (n:=4) rfl rfl (gm c)
  have x2:bR H H2:=x1.trans ⟨by omega,fun b hb=>ko b (by omega)⟩
  have no:fT c=false→∀ h',R (.ret (.bool false)) h'=true:=fun hc h'=>fin _ _ (by simp [iP,all_false hv hc])
  rw [F.cE.aN]
  simp only [e1,e3,aQ,Nat.reduceAdd,Nat.reduceEqDiff,reduceIte,an q0,aL,bf hi,aS r.body hi,cZ gl hv,hs2]
  simp only [aQ,Nat.reduceAdd,Nat.reduceEqDiff,reduceIte,an k1,bO,ct]
  by_cases k0:c.kind=0
  ·have hco:fT c=(ec c.name&&kE c.args.l):=by unfold fT;rw [if_pos k0,xU]
   simp only [decide_eq_true k0,aC,aQ,Nat.reduceAdd,Nat.reduceEqDiff,reduceIte,an k1,bO]
   refine ak (ee ?_)
   simp only [aQ,Nat.reduceAdd,Nat.reduceEqDiff,reduceIte]
   cases n1:ec c.name with
   |false=>
    simp only [Bool.not_false,aC]
    rw [hr,F.cE.aZ]
    exact no (by rw [hco,n1];rfl) _
   |true=>
   simp only [Bool.not_true,aD,aQ,Nat.reduceAdd,Nat.reduceEqDiff,reduceIte,an k1,bO]
   refine ak (dM hcok.2.1 ?_)
   simp only [aQ,Nat.reduceAdd,Nat.reduceEqDiff,reduceIte]
   cases n2:kE c.args.l with
   |false=>
    simp only [Bool.not_false,aC]
    rw [hr,F.cE.aZ]
    exact no (by rw [hco,n2,Bool.and_false]) _
   |true=>
   simp only [Bool.not_true,aD,aK hi hbb,bindO_some]
   exact hnn _ _ ⟨x2,e1,rfl,ic hv ht (by rw [hco,n1,n2];rfl)⟩
  simp only [decide_eq_false k0,aD]
  have J:∀ (e:Env) (b:Bool),e 1 = .ptr 0 0→e 3 = .int .i64 (i:Int)→e 4 = .ptr h'.next 0→e 44 = .bool b→(b=true↔(c.kind=1∨c.kind=2))→F.cE.J0 K' ⟨e,67,[],H2⟩=true:=by
   intro e b e1 e3 e4 e44 hb
   rw [F.cE.Au]
   simp only [e4,e44,aQ,Nat.reduceAdd,Nat.reduceEqDiff,reduceIte]
   cases b with
   |false=>
    simp only [aD]
    have:¬ (c.kind=1∨c.kind=2):=fun h=>by have:=hb.2 h;cases this
    rw [hr,F.cE.aZ]
    exact no (by unfold fT;rw [if_neg k0,if_neg this]) _
   |true=>
    have hk:=hb.1 rfl
    have hc1:fT c=(decide (c.name = [])&&(decide (c.args.l.length=2)&&c.args.l.all ec)):=by simp only [fT,if_neg k0,if_pos hk]
    simp only [aC,aQ,Nat.reduceAdd,Nat.reduceEqDiff,reduceIte,an k1,bO,nC]
    by_cases hn:c.name = []
    ·simp only [decide_eq_true hn,Bool.not_true,aD,aQ,Nat.reduceAdd,Nat.reduceEqDiff,reduceIte,an k1,bO,ct]
     by_cases h2:c.args.l.length=2
     ·simp only [decide_eq_true (by omega:(c.args.l.length:Int)=2),Bool.not_true,aD,aQ,Nat.reduceAdd,Nat.reduceEqDiff,reduceIte,an k1,bO]
      refine ak (dM hcok.2.1 ?_)
      simp only [aQ,Nat.reduceAdd,Nat.reduceEqDiff,reduceIte]
      have hnm:kE c.args.l=c.args.l.all ec:=by unfold kE;rw [decide_eq_true (by omega:c.args.l.length≤12),Bool.and_true]
      rw [hnm]
      cases n2:c.args.l.all ec with
      |false=>
       simp only [Bool.not_false,aC]
       rw [hr,F.cE.aZ]
       exact no (by rw [hc1,n2,Bool.and_false,Bool.and_false]) _
      |true=>
       simp only [Bool.not_true,aD,e3,aK hi hbb,bindO_some]
       exact hnn _ _ ⟨x2,e1,rfl,ic hv ht (by rw [hc1,n2];simp [hn,h2])⟩
     ·simp only [decide_eq_false (by omega:¬ (c.args.l.length:Int)=2),Bool.not_false,aC]
      rw [hr,F.cE.aZ]
      exact no (by rw [hc1];simp [h2]) _
    ·simp only [decide_eq_false hn,Bool.not_false,aC]
     rw [hr,F.cE.aZ]
     exact no (by rw [hc1];simp [hn]) _
  by_cases k1':c.kind=1
  ·simp only [decide_eq_true k1',aC]
   exact J _ true e1 e3 rfl rfl (by simp [k1'])
  ·simp only [decide_eq_false k1',aD]
   exact J _ (decide (c.kind=2)) e1 e3 rfl rfl (by simp [k1'])
 ·rintro e h' ⟨x1,e1,e3,ht⟩ K' hx
  have q0:h'.get 0=some (.cells (aL r)):=by rw [x1.get 0 (by omega)];exact g0
  rw [F.cE.aN]
  simp only [e1,e3,aQ,Nat.reduceAdd,Nat.reduceEqDiff,reduceIte,an q0,aL,aT]
  rw [hx,F.cE.aG]
  simp only [e1,aQ,Nat.reduceAdd,Nat.reduceEqDiff,reduceIte,an q0,aL,lM]
  refine ak (bH hf fun x hx1=>?_)
  simp only [aQ,Nat.reduceAdd,Nat.reduceEqDiff,reduceIte,hx1]
  rw [List.take_of_length_le (Nat.le_refl _)] at ht
  refine fin _ _ ?_
  unfold iP
  rw [hn,hnd,decide_eq_true h20',ht]
  by_cases h12:(varsOf r).length≤12
  ·rw [decide_eq_true h12,decide_eq_true (by omega:((varsOf r).length:Int)≤12)];rfl
  ·rw [decide_eq_false h12,decide_eq_false (by omega:¬ ((varsOf r).length:Int)≤12)];rfl
def dW(cs:List dO):List (bC×Int):=(cs.filter fun c=>decide (c.kind=0)).map fun c=>(c.name,(c.args.l.length:Int))
def ug(r:aB):List (bC×Int):=(r.name,(r.args.l.length:Int)) :: dW r.body.l
def cB(rs:List aB):List (bC×Int):=rs.flatMap ug
theorem Bf{cs:List dO}{j:Nat}{c:dO}(hc:cs[j]?=some c):dW (cs.take (j+1))=dW (cs.take j)++if c.kind=0 then [(c.name,(c.args.l.length:Int))] else []:=by
 unfold dW;rw [List.take_add_one,hc,Option.toList_some,List.filter_append,List.map_append]
 by_cases h:c.kind=0<;>simp [h]
theorem nO(cs:List dO):(dW cs).length≤cs.length:=by
 unfold dW;rw [List.length_map];exact List.length_filter_le _ _
theorem rE:∀ rs:List aB,(∀ r ∈ rs,r.body.l.length≤20)→(cB rs).length≤rs.length*21
 |[],_=>Nat.le_refl _
 |r :: rs,h=>by
  have h1:=rE rs fun q hq=>h q (List.mem_cons_of_mem _ hq)
  have h2:=nO r.body.l
  have h3:=h r List.mem_cons_self
  show (ug r++cB rs).length≤_
  unfold ug
  rw [List.length_append,List.length_cons,List.length_cons];omega
theorem cC{rules:Sl aB}(h60:rules.l.length≤60)(h20:∀ r ∈ rules.l,r.body.l.length≤20){h:ag}{K:Out→ag→Bool}(hK:∀ x:Sl (bC×Int),x.l=cB rules.l→K (.ret (aq me 2 x)) h=true) :
  Sem Tryz.prog 85 [aq aL 3 rules] h K:=by
 have hbig:rules.l.length≤cm:=by unfold cm;omega
 have hmx:dm=140737488355328:=rfl
 have main:Sem Tryz.prog 85 [aq aL 3 rules] ag.empty (fun o h'=>yes (∃ v,∃ x:Sl (bC×Int),o = .ret v∧x.l=cB rules.l∧Fz true h' v (aq me 2 x))):=by
  refine F.yu ?_
  rw [F.Aq]
  refine aE 0 rules.l.length (Nat.zero_le _) (fun i e h'=>∃ a,Own me 2 0 h' a (cB (rules.l.take i))∧e 0=aq aL 3 rules∧e 3=a∧e 4 = .int .i64 (i:Int)) ⟨.nils,.nil,rfl,rfl,rfl⟩ ?_ ?_
  ·rintro i e h' _ hi ⟨a,o,e0,e3,e4⟩ K' hn hx hr hp
   have hv:rules.l[i]?=some rules.l[i]:=List.getElem?_eq_getElem hi
   generalize rules.l[i]=r at hv
   have hb20:=h20 r (List.mem_of_getElem? hv)
   have hbb:r.body.l.length≤cm:=by unfold cm;omega
   have ld:∀ j,j<3→∀ h,ai none (.iptr (rules.l.flatMap aL) (i*3+j)) h=(aL r)[j]?:=fun j hj h=>eM eN hv hj
   have ld0:∀ h,ai none (.iptr (rules.l.flatMap aL) (i*3)) h=some (.str r.name):=fun h=>ld 0 (by omega) h
   have hal:(cB (rules.l.take i)).length≤1260:=by
    have h1:=rE (rules.l.take i) fun q hq=>h20 q (List.mem_of_mem_take hq)
    have h2:=List.length_take_le i rules.l
    omega
   obtain ⟨a1,h1,p1,p2,p3,p4,p5,p6⟩:=o.push mX (fun x=>rfl) (Nat.zero_le _) (bytes:=24) (by omega) (r.name,(r.args.l.length:Int))
   rw [F.cC.aN]
   simp only [e0,e3,e4,aQ,Nat.reduceAdd,Nat.reduceEqDiff,reduceIte,bf hi,aS rules hi,ld0,ld 1 (by omega),aL,KC,KD,p1]
   refine aE 0 r.body.l.length (Nat.zero_le _) (fun j e h2=>∃ a,Own me 2 0 h2 a (cB (rules.l.take i)++(r.name,(r.args.l.length:Int)) :: dW (r.body.l.take j))∧e 0=aq aL 3 rules∧e 3=a∧e 4 = .int .i64 (i:Int)∧e 5 = .int .i64 (j:Int))
    ⟨a1,by simpa [dW] using p2,e0,rfl,e4,rfl⟩ ?_ ?_
   ·rintro j e h2 _ hj ⟨a,o,e0,e3,e4,e5⟩ K2 hn2 hx2 hr2 hp2
    have hc:r.body.l[j]?=some r.body.l[j]:=List.getElem?_eq_getElem hj
    generalize r.body.l[j]=c at hc
    obtain ⟨H2,hs2,k1,ko,kn⟩:=cL (h:=h2) (zs:=[.int .i64 0,.bool false,.str [],.nils]) (cs:=bO c) (n:=4) rfl rfl (gm c)
    have x2:bR h2 H2:=⟨by omega,fun b hb=>ko b (by omega)⟩
    have hst:=Bf hc
    rw [F.cC.dS]
    simp only [e0,e3,e4,e5,aQ,Nat.reduceAdd,Nat.reduceEqDiff,reduceIte,aS rules hi,ld 2 (by omega),aL,bf hj,aS r.body hj,cZ gl hc,hs2]
    simp only [aQ,Nat.reduceAdd,Nat.reduceEqDiff,reduceIte,an k1,bO,ct]
    by_cases k0:c.kind=0
    ·rw [if_pos k0] at hst
     have hcl:(dW (r.body.l.take j)).length≤20:=by
      have h1:=nO (r.body.l.take j)
      have h2:=List.length_take_le' j r.body.l
      omega
     obtain ⟨a2,h3,s1,s2,s3,s4,s5,s6⟩:=(o.ext x2).push mX (fun x=>rfl) (Nat.zero_le _) (bytes:=24) (by rw [List.length_append,List.length_cons];omega) (c.name,(c.args.l.length:Int))
     simp only [decide_eq_true k0,aC,aQ,Nat.reduceAdd,Nat.reduceEqDiff,reduceIte,an k1,bO,KC,KD,s1,aK hj hbb]
     refine hn2 _ _ ⟨a2,?_,e0,rfl,e4,rfl⟩
     rw [hst];simpa using s2
    ·rw [if_neg k0,List.append_nil] at hst
     simp only [decide_eq_false k0,aD,aK hj hbb,bindO_some]
     exact hn2 _ _ ⟨a,by rw [hst];exact o.ext x2,e0,e3,e4,rfl⟩
   ·rintro e h2 ⟨a,o,e0,e3,e4,e5⟩ K2 hx2
    rw [F.cC.dS]
    simp only [e0,e4,e5,aQ,Nat.reduceAdd,Nat.reduceEqDiff,reduceIte,aS rules hi,ld 2 (by omega),aL,aT]
    rw [hx2,F.cC.cG]
    simp only [e4,aQ,Nat.reduceAdd,Nat.reduceEqDiff,reduceIte,aK hi hbig]
    refine hn _ _ ⟨a,?_,e0,e3,rfl⟩
    rw [List.take_of_length_le (Nat.le_refl _)] at o
    have:cB (rules.l.take (i+1))=cB (rules.l.take i)++(r.name,(r.args.l.length:Int)) :: dW r.body.l:=by
     unfold cB;rw [List.take_add_one,hv];simp [ug]
    rw [this];exact o
  ·rintro e h' ⟨a,o,e0,e3,e4⟩ K' hx
   rw [F.cC.aN]
   simp only [e0,e4,aQ,Nat.reduceAdd,Nat.reduceEqDiff,reduceIte,aT]
   rw [hx,F.cC.aG]
   rw [List.take_of_length_le (Nat.le_refl _)] at o
   simp only [bt,Nat.reduceEqDiff,reduceIte,e3]
   obtain ⟨x,hx1,hx2⟩:=o.Ft (fun v y hy=>by
    simp only [me,List.mem_cons,List.not_mem_nil,or_false] at hy
    rcases hy with rfl|rfl<;>exact .scalar _ rfl)
   exact cw.2 ⟨a,x,rfl,hx1,hx2⟩
 refine main.frozen (by simp [AV.pureL,bF dR]) fun o h' ho=>?_
 obtain ⟨v,x,rfl,hx,hf⟩:=cw.1 ho
 exact ⟨v,_,rfl,hf,hK x hx⟩
end
end Go.AM
namespace Go.AM
open Go Go.Proofs
noncomputable section
theorem xW{f:St→(AX→St→Bool)→Bool}{K:AX→St→Bool}{n:Nat}{defs:List mu}{e0:Env}{h0:ag}(I:Nat→Env→ag→Prop)(m:Nat)(hI:I m e0 h0)
  (step:∀ m e h,I m e h→∀ K':AX→St→Bool,(∀ m' e' h',m'<m→I m' e' h'→K' .normal ⟨e',n,defs,h'⟩=true)→(∀ id s,K' (.exit id) s=K (.exit id) s)→(∀ s,K' .ret s=K .ret s)→f ⟨e,n,defs,h⟩ K'=true):bT f ⟨e0,n,defs,h0⟩ K=true:=
 jb I m hI fun m e h hi=>step m e h hi _ (fun m' e' h' hlt hi'=>oV (I:=I) m' hlt hi') (fun _ _=>rfl) (fun _=>rfl)
theorem uh:∀ (l:List bC) (s:bC),(eD l s).length≤l.length+1
 |[],s=>Nat.le_refl _
 |x :: l,s=>by
  have:=uh l s
  rw [eD]
  split
  ·rw [List.length_cons,List.length_cons];omega
  ·split
   ·omega
   ·simp
def cU(rs:List aB):List bC:=rs.foldl (fun o r=>eD o r.name) []
theorem I8{rs:List aB}{i:Nat}{r:aB}(hr:rs[i]?=some r):cU (rs.take (i+1))=eD (cU (rs.take i)) r.name:=by
 unfold cU;rw [List.take_add_one,hr];simp
theorem p9:∀ (rs:List aB) (o:List bC),(rs.foldl (fun o r=>eD o r.name) o).length≤o.length+rs.length
 |[],o=>Nat.le_refl _
 |r :: rs,o=>by
  have h1:=p9 rs (eD o r.name)
  have h2:=uh o r.name
  rw [List.foldl_cons,List.length_cons];omega
theorem kG(rs:List aB):(cU rs).length≤rs.length:=by
 have:=p9 rs [];simpa [cU] using this
theorem m8:∀ (rs:List aB) (o:List bC),xM o→xM (rs.foldl (fun o r=>eD o r.name) o)
 |[],o,h=>h
 |r :: rs,o,h=>m8 rs _ (tC h r.name)
theorem nE(rs:List aB):xM (cU rs):=m8 rs [] List.Pairwise.nil
theorem qb{s:bC}:∀ (rs:List aB) (o:List bC),s ∈ rs.foldl (fun o r=>eD o r.name) o↔s ∈ o∨s ∈ aY rs
 |[],o=>by simp [aY]
 |r :: rs,o=>by
  rw [List.foldl_cons,qb rs,pI]
  simp [aY,or_assoc]
theorem dx{s:bC}(rs:List aB):s ∈ cU rs↔s ∈ aY rs:=by
 have:=qb (s:=s) rs [];simpa [cU] using this
theorem rF{l:List bC}(h:xM l):l.Nodup:=by
 unfold xM at h;unfold List.Nodup
 exact h.imp fun {a b} hab e=>by subst e;rw [wG] at hab;cases hab
theorem cM{rules:Sl aB}(h60:rules.l.length≤60){h:ag}{K:Out→ag→Bool}(hK:∀ x:Sl bC,x.l=cU rules.l→K (.ret (aq encS 1 x)) h=true) :
  Sem Tryz.prog 34 [aq aL 3 rules] h K:=by
 have hbig:rules.l.length≤cm:=by unfold cm;omega
 have main:Sem Tryz.prog 34 [aq aL 3 rules] ag.empty (fun o h'=>yes (∃ v,∃ x:Sl bC,o = .ret v∧x.l=cU rules.l∧Fz true h' v (aq encS 1 x))):=by
  refine F.uZ ?_
  rw [F.we]
  refine aE 0 rules.l.length (Nat.zero_le _) (fun i e h'=>∃ a,Own encS 1 0 h' a (cU (rules.l.take i))∧e 0=aq aL 3 rules∧e 3=a∧e 4 = .int .i64 (i:Int)) ⟨.nils,.nil,rfl,rfl,rfl⟩ ?_ ?_
  ·rintro i e h' _ hi ⟨a,o,e0,e3,e4⟩ K' hn hx hr hp
   have hv:rules.l[i]?=some rules.l[i]:=List.getElem?_eq_getElem hi
   generalize rules.l[i]=r at hv
   have ld:∀ h,ai none (.iptr (rules.l.flatMap aL) (i*3)) h=some (.str r.name):=fun h=>eM eN hv (by omega:0<3)
   have hst:=I8 hv
   rw [F.cM.aN]
   simp only [e0,e3,e4,aQ,Nat.reduceAdd,Nat.reduceEqDiff,reduceIte,bf hi,aS rules hi,ld]
   refine ak (ej o (Nat.zero_le _) (by have h1:=kG (rules.l.take i);have h2:=List.length_take_le i rules.l;omega) fun a1 h1 x1 o1=>?_)
   simp only [aQ,Nat.reduceAdd,Nat.reduceEqDiff,reduceIte,aK hi hbig]
   exact hn _ _ ⟨a1,by rw [hst];exact o1,e0,rfl,rfl⟩
  ·rintro e h' ⟨a,o,e0,e3,e4⟩ K' hx
   rw [F.cM.aN]
   simp only [e0,e4,aQ,Nat.reduceAdd,Nat.reduceEqDiff,reduceIte,aT]
   rw [hx,F.cM.aG]
   rw [List.take_of_length_le (Nat.le_refl _)] at o
   simp only [bt,Nat.reduceEqDiff,reduceIte,e3]
   obtain ⟨x,hx1,hx2⟩:=o.Ft (fun v y hy=>by
    simp only [encS,List.mem_cons,List.not_mem_nil,or_false] at hy
    subst hy;exact .scalar _ rfl)
   exact cw.2 ⟨a,x,rfl,hx1,hx2⟩
 refine main.frozen (by simp [AV.pureL,bF dR]) fun o h' ho=>?_
 obtain ⟨v,x,rfl,hx,hf⟩:=cw.1 ho
 exact ⟨v,_,rfl,hf,hK x hx⟩
theorem dL{x:Sl bC}{s:bC}(hx:x.l.length≤cm){h:ag}{K:Out→ag→Bool}(hyes:∀ i:Nat,x.l[i]?=some s→K (.ret (.int .i64 (i:Int))) h=true)(hno:s ∉ x.l→K (.ret (.int .i64 (-1))) h=true):Sem Tryz.prog 58 [aq encS 1 x,.str s] h K:=by
 refine F.yt ?_
 rw [F.Ap]
 refine aE 0 x.l.length (Nat.zero_le _) (fun i e h'=>h'=h∧e 0=aq encS 1 x∧e 1 = .str s∧e 5 = .int .i64 (i:Int)∧s ∉ x.l.take i) ⟨rfl,rfl,rfl,rfl,by simp⟩ ?_ ?_
 ·rintro i e h' _ hi ⟨rfl,e0,e1,e5,ht⟩ K' hn hx' hr hp
  have hv:x.l[i]?=some x.l[i]:=List.getElem?_eq_getElem hi
  generalize x.l[i]=t at hv
  rw [F.dL.aN]
  simp only [e0,e1,e5,aQ,Nat.reduceAdd,Nat.reduceEqDiff,reduceIte,bf hi,aS x hi,iq hv,nC]
  by_cases hq:t=s
  ·subst hq
   simp only [decide_true,aC]
   rw [hr,F.dL.aZ]
   exact hyes i hv
  ·simp only [decide_eq_false hq,aD,aK hi hx,bindO_some]
   refine hn _ _ ⟨rfl,e0,e1,rfl,?_⟩
   rw [List.take_add_one,hv]
   simp only [Option.toList_some,List.mem_append,List.mem_singleton]
   exact fun h=>h.elim ht fun h=>hq h.symm
 ·rintro e h' ⟨rfl,e0,e1,e5,ht⟩ K' hx'
  rw [F.dL.aN]
  simp only [e0,e5,aQ,Nat.reduceAdd,Nat.reduceEqDiff,reduceIte,aT]
  rw [hx',F.dL.aG]
  rw [List.take_of_length_le (Nat.le_refl _)] at ht
  exact hno ht
end
end Go.AM